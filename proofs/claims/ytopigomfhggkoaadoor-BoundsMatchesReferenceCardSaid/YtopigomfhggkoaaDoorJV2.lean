/- Bounds of values: the walk of Of. Bounds: valid, contained, merged: the walks. (Written by mk8.py.) -/
import Derived.Test.YtopigomfhggkoaaDoorJV1
namespace Go.Proofs.YtopigomfhggkoaaDoor.A
section
set_option linter.unusedVariables false
set_option linter.unusedSimpArgs false
open Go.RowKit
attribute [local irreducible] Spec SpecF SpecN
attribute [local irreducible] AWp evOps evD
structure Bd where
  nulls : Int
  has : Bool
  lo : Vl
  hi : Vl
  sum : Int
abbrev bd (b : Bd) : List AV := [litI .i64 b.nulls, litB b.has, litI .i64 b.lo.k, litI .i64 b.lo.i, litS b.lo.s, litI .i64 b.hi.k, litI .i64 b.hi.i, litS b.hi.s, litI .i64 b.sum]
abbrev bdD (b : Bd) : List Dat := [.lit (.int .i64 b.nulls), .lit (.bool b.has), .lit (.int .i64 b.lo.k), .lit (.int .i64 b.lo.i), .lit (.string b.lo.s), .lit (.int .i64 b.hi.k), .lit (.int .i64 b.hi.i), .lit (.string b.hi.s), .lit (.int .i64 b.sum)]
abbrev zeroBd : Bd := ⟨0, false, nullV, nullV, 0⟩
def isNull (v : Vl) : Bool := (v.k == 0) && ((v.i == 0) && noS v.s)
def badV (b : Bd) (v : Vl) : Bool := !wideV v || (!isNull v && b.has && (v.k != b.lo.k))
def startV (b : Bd) (v : Vl) : Bd := if b.has = true then b else ⟨b.nulls, true, v, v, b.sum⟩
def lowV (b : Bd) (v : Vl) : Bd := if cmpV v b.lo < 0 then ⟨b.nulls, b.has, v, b.hi, b.sum⟩ else b
def highV (b : Bd) (v : Vl) : Bd := if cmpV v b.hi > 0 then ⟨b.nulls, b.has, b.lo, v, b.sum⟩ else b
def ofIn (b : Bd) (v : Vl) : Bd := highV (lowV (startV b v) v) v
def ofS (b : Bd) : List Vl → Option Bd
  | [] => some b
  | v :: l => if badV b v = true then none else if isNull v = true then ofS ⟨b.nulls + 1, b.has, b.lo, b.hi, b.sum⟩ l else ofS (ofIn b v) l
def numsV (l : List Vl) : List Int := (l.filter fun v => v.k == 2).map (·.i)
def ofM (l : List Vl) : Bd × Int := match ofS zeroBd l with
  | none => (zeroBd, 6)
  | some b => if (sumD (numsV l)).2 = 0 then (⟨b.nulls, b.has, b.lo, b.hi, (sumD (numsV l)).1⟩, 0) else (zeroBd, (sumD (numsV l)).2)
structure VlOk (v : Vl) : Prop where
  i : -9223372036854775808 ≤ v.i ∧ v.i ≤ 9223372036854775807
  s : v.s.size ≤ 4611686018427387904
abbrev dV : Vl := nullV
theorem vls_at (l : List Vl) {i : Nat} (h : i < l.length) : (l.map vlD).getD i [] = vlD (l.getD i dV) := by
  simp [List.getD_eq_getElem?_getD, h]
theorem mem_at {α : Type} (l : List α) (d : α) {i : Nat} (h : i < l.length) : l.getD i d ∈ l := by
  rw [List.getD_eq_getElem?_getD, List.getElem?_eq_getElem h]; exact List.getElem_mem h
theorem take_at {α : Type} (l : List α) (d : α) {i : Nat} (h : i < l.length) : l.take (i + 1) = l.take i ++ [l.getD i d] := by
  rw [List.take_succ_eq_append_getElem h]; simp [List.getD_eq_getElem?_getD, h]
theorem numsV_step (l : List Vl) {i : Nat} (h : i < l.length) : numsV (l.take (i + 1)) = if ((l.getD i dV).k == 2) = true then numsV (l.take i) ++ [(l.getD i dV).i] else numsV (l.take i) := by
  rw [take_at l dV h]
  unfold numsV
  rw [List.filter_append, List.map_append]
  generalize l.getD i dV = v
  split
  · rename_i h1; simp only [List.filter_cons, List.filter_nil, h1, if_true, List.map_cons, List.map_nil]
  · rename_i h1; simp only [List.filter_cons, List.filter_nil, h1, if_false, Bool.false_eq_true, List.map_nil, List.append_nil]
theorem cmpI_self (a : Int) : cmpI a a = 0 := cmpI_zero.2 rfl
theorem cmpB_self (a : ByteArray) : cmpB a a = 0 := by
  have h : ∀ l : List UInt8, Op.bytesLess l l = false := by
    intro l
    induction l with
    | nil => rfl
    | cons x l ih => simp [Op.bytesLess, ih]
  unfold cmpB
  rw [h]; simp
theorem cmpV_self (v : Vl) : cmpV v v = 0 := by
  simp [cmpV, firstNZ, cmpI_self, cmpB_self]
theorem numsV_len (l : List Vl) : (numsV l).length ≤ l.length := by
  unfold numsV
  rw [List.length_map]
  exact List.length_filter_le _ _
set_option maxHeartbeats 8000000 in
theorem f35_spec (l : List Vl) (hb : ∀ v ∈ l, VlOk v) (hl : l.length ≤ 16777216) : Spec Tryd.prog 35 [.d (vls l)] (.tup [.agg (bd (ofM l).1), litI .i64 (ofM l).2]) := by
  have h55 := f55_spec (numsV l) (by
    intro x hx
    simp only [numsV, List.mem_map, List.mem_filter] at hx
    obtain ⟨v, ⟨hv, _⟩, rfl⟩ := hx
    exact (hb v hv).i) (by have := numsV_len l; omega)
  have hnl := numsV_len l
  refine spec_of_awp (fn := Tryd.f35) Tryd.func35 (by kernel_rfl) rfl ?_
  intro w0 C0
  simp only [Tryd.ntmps35, go_sem]
  repeat' first | refine awp_seq ?_ | refine awp_block ?_ | refine awp_skip ?_ | (apply regB; (case hd => exact hdA); intro K hK) | (apply ev_guardU; (case hj | hu | hσ => (simp only [go_sem]; try rfl))) | ((first | refine awp_cond _ (by rfl) ?_ ?_ | ((first | apply ev_guardT | apply ev_guardF); (case hj | hb => (simp only [go_sem]; try rfl)))) <;> (first | refine ttA ?_ | refine ffA ?_ | (intro hb; first | (cases hb; done) | simp only [hb] | skip))) | ((first | apply awp_exit | apply awp_ret); refine tqA ?_) | (refine ev_nil (hK _ ?_); clear hK K) | (apply ev_step0; (case hr | hσ => (simp only [go_sem]; try rfl)); (case hc => exact hcA)) | (apply ev_step; (case hr | hσ => (intros; simp only [go_sem]; try rfl)); (case hc => exact hcA); intro g u; (try clear u); (try clear g)) | fail
  rename_i g2
  revert g; intro g4
  refine awp_loopI (fun j : Nat × (Bd × Value) => j.1 ≤ l.length ∧ ofS j.2.1 (l.drop j.1) = ofS zeroBd l ∧ (0 ≤ j.2.1.nulls ∧ j.2.1.nulls ≤ j.1) ∧ j.2.1.sum = 0) (fun j => l.length - j.1) (fun j => ⟨[.any, .any, .ptr 2 g2 0, litI .i64 0, .ptr 4 g4 0, .own 73 j.2.2, .any, .any, .any, .any, .d (vls l), litI .i64 l.length, litI .i64 j.1, .any, .any, .any, .any, .any, .any, .any, .any, .any, .any, .any, .any, .any, .any, .any, .any, .any, .any, .any, .any, .any, .any, .any, .any, .any, .any, .any, .any, .any, .any, .any, .any, .any, .any, .any, .any, .any, .any, .any, .any, .any, .any, .any, .any, .any, .any, .any, .any, .any, .any, .any, .any, .any, .any, .any, .any, .any, .any, .any, .any, .any, .any, .any, .any, .any, .any, .any, .any, .any, .any, .any, .any, .any, .any], [.no, .no, .box g2 (bd zeroBd), .no, .box g4 (bd j.2.1), .no, .no, .no, .no, .no, .no, .no, .no, .no, .no, .no, .no, .no, .no, .no, .no, .no, .no, .no, .no, .no, .no, .no, .no, .no, .no, .no, .no, .no, .no, .no, .no, .no, .no, .no, .no, .no, .no, .no, .no, .no, .no, .no, .no, .no, .no, .no, .no, .no, .no, .no, .no, .no, .no, .no, .no, .no, .no, .no, .no, .no, .no, .no, .no, .no, .no, .no, .no, .row j.2.2 3 1 ((numsV (l.take j.1)).map fun n => [.lit (.int .i64 n)]), .no, .no, .no, .no, .no, .no, .no, .no, .no, .no, .no, .no, .no]⟩) (0, zeroBd, .slice none 0 0) ⟨by simp, rfl, by simp, rfl⟩ ?_ ?_
  · exact wkA
  rintro ⟨i, b, u0⟩ ⟨hi, hof, ⟨hn0, hn1⟩, hsum⟩
  simp only [litI, litB, litS] at hi hof hn0 hn1 hsum ⊢
  by_cases hlt : i < l.length
  rotate_left
  have hdec : decide ((i : Int) < (l.length : Int)) = false := by simp; omega
  · have hil : i = l.length := by omega
    subst hil
    rw [List.drop_length, ofS] at hof
    rw [List.take_length]
    rcases hs : ((numsV l).all small && small (sumL (numsV l))) with _ | _
    · have e : sumD (numsV l) = (0, 2) := by unfold sumD; rw [hs, if_neg Bool.false_ne_true]
      have em : ofM l = (zeroBd, 2) := by unfold ofM; rw [← hof, e]; rfl
      rw [e] at h55
      rw [em]
      repeat' first | refine awp_seq ?_ | refine awp_block ?_ | refine awp_skip ?_ | (apply regB; (case hd => exact hdA); intro K hK) | (apply ev_guardU; (case hj | hu | hσ => (simp only [go_sem, hdec]; try rfl))) | ((first | refine awp_cond _ (by rfl) ?_ ?_ | ((first | apply ev_guardT | apply ev_guardF); (case hj | hb => (simp only [go_sem, hdec]; try rfl)))) <;> (first | refine ttA ?_ | refine ffA ?_ | (intro hb; first | (cases hb; done) | simp only [hb] | skip))) | ((first | apply awp_exit | apply awp_ret); refine tqA ?_) | (refine ev_nil (hK _ ?_); clear hK K) | (apply ev_call0; (case hys => (simp only [go_sem, hdec]; try rfl)); (case hs => first | exact h55 ..); (case hok | hσ => (simp only [go_sem, hdec]; try rfl))) | (apply ev_step0; (case hr | hσ => (simp only [go_sem, hdec]; try rfl)); (case hc => exact hcA)) | (apply ev_step; (case hr | hσ => (intros; simp only [go_sem, hdec]; try rfl)); (case hc => exact hcA); intro g u; (try clear u); (try clear g)) | fail
      all_goals (refine resR_moreA ?_; simp only [go_sem])
      refine ⟨LeA.refl _, LeA.refl _, trivial⟩
    · have e : sumD (numsV l) = (sumL (numsV l), 0) := by unfold sumD; rw [hs, if_pos rfl]
      have em : ofM l = (⟨b.nulls, b.has, b.lo, b.hi, sumL (numsV l)⟩, 0) := by unfold ofM; rw [← hof, e]; rfl
      rw [e] at h55
      rw [em]
      repeat' first | refine awp_seq ?_ | refine awp_block ?_ | refine awp_skip ?_ | (apply regB; (case hd => exact hdA); intro K hK) | (apply ev_guardU; (case hj | hu | hσ => (simp only [go_sem, hdec]; try rfl))) | ((first | refine awp_cond _ (by rfl) ?_ ?_ | ((first | apply ev_guardT | apply ev_guardF); (case hj | hb => (simp only [go_sem, hdec]; try rfl)))) <;> (first | refine ttA ?_ | refine ffA ?_ | (intro hb; first | (cases hb; done) | simp only [hb] | skip))) | ((first | apply awp_exit | apply awp_ret); refine tqA ?_) | (refine ev_nil (hK _ ?_); clear hK K) | (apply ev_call0; (case hys => (simp only [go_sem, hdec]; try rfl)); (case hs => first | exact h55 ..); (case hok | hσ => (simp only [go_sem, hdec]; try rfl))) | (apply ev_step0; (case hr | hσ => (simp only [go_sem, hdec]; try rfl)); (case hc => exact hcA)) | (apply ev_step; (case hr | hσ => (intros; simp only [go_sem, hdec]; try rfl)); (case hc => exact hcA); intro g u; (try clear u); (try clear g)) | fail
      all_goals (refine resR_moreA ?_; simp only [go_sem])
      refine ⟨LeA.refl _, LeA.refl _, trivial⟩
  have hdec : decide ((i : Int) < (l.length : Int)) = true := by simp; omega
  have hx := vls_at l hlt
  have hm := hb _ (mem_at l dV hlt)
  have hns := numsV_step l hlt
  rw [drop_at l dV hlt, ofS] at hof
  generalize l.getD i dV = v at *
  have h40 := f40_spec v hm.s
  have hq : ((v.k == 0) && ((v.i == 0) && (v.s.toList == (⟨#[]⟩ : ByteArray).toList))) = isNull v := rfl
  obtain ⟨N, hN⟩ : ∃ N, isNull v = N := ⟨_, rfl⟩
  rw [hN] at hq
  cases hw : wideV v with
  | false =>
    rw [hw] at h40
    have : badV b v = true := by simp [badV, hw]
    rw [if_pos this] at hof
    have e : ofM l = (zeroBd, 6) := by unfold ofM; rw [← hof]
    rw [e]
    all_goals have H := And.intro hdec hx
    repeat' first | refine awp_seq ?_ | refine awp_block ?_ | refine awp_skip ?_ | (apply regB; (case hd => exact hdA); intro K hK) | (apply ev_guardU; (case hj | hu | hσ => (simp only [go_sem, H]; try rfl))) | ((first | refine awp_cond _ (by rfl) ?_ ?_ | ((first | apply ev_guardT | apply ev_guardF); (case hj | hb => (simp only [go_sem, H]; try rfl)))) <;> (first | refine ttA ?_ | refine ffA ?_ | (intro hb; first | (cases hb; done) | simp only [hb] | skip))) | ((first | apply awp_exit | apply awp_ret); refine tqA ?_) | (refine ev_nil (hK _ ?_); clear hK K) | (apply ev_call0; (case hys => (simp only [go_sem, H]; try rfl)); (case hs => first | exact h40 ..); (case hok | hσ => (simp only [go_sem, H]; try rfl))) | (apply ev_step0; (case hr | hσ => (simp only [go_sem, H]; try rfl)); (case hc => exact hcA)) | (apply ev_step; (case hr | hσ => (intros; simp only [go_sem, H]; try rfl)); (case hc => exact hcA); intro g u; (try clear u); (try clear g)) | fail
    all_goals try clear H
    all_goals (refine resR_moreA ?_; simp only [go_sem])
    refine ⟨LeA.refl _, LeA.refl _, trivial⟩
  | true =>
  rw [hw] at h40
  have hbad : badV b v = (!N && b.has && (v.k != b.lo.k)) := by simp [badV, hw, hN]
  cases N with
  | true =>
    rw [hbad] at hof
    rw [if_neg (by simp), if_pos hN] at hof
    have w1 : IntKind.i64.wrap (b.nulls + 1) = b.nulls + 1 := wrap_id (by omega)
    have hk : (v.k == 2) = false := by
      unfold isNull at hN
      simp only [Bool.and_eq_true, beq_iff_eq] at hN
      rw [hN.1]; rfl
    rw [hk, if_neg Bool.false_ne_true] at hns
    all_goals have H := And.intro hdec (And.intro hx (And.intro hq w1))
    repeat' first | refine awp_seq ?_ | refine awp_block ?_ | refine awp_skip ?_ | (apply regB; (case hd => exact hdA); intro K hK) | (apply ev_guardU; (case hj | hu | hσ => (simp only [go_sem, H]; try rfl))) | ((first | refine awp_cond _ (by rfl) ?_ ?_ | ((first | apply ev_guardT | apply ev_guardF); (case hj | hb => (simp only [go_sem, H]; try rfl)))) <;> (first | refine ttA ?_ | refine ffA ?_ | (intro hb; first | (cases hb; done) | simp only [hb] | skip))) | ((first | apply awp_exit | apply awp_ret); refine tqA ?_) | (refine ev_nil (hK _ ?_); clear hK K) | (apply ev_call0; (case hys => (simp only [go_sem, H]; try rfl)); (case hs => first | exact h40 ..); (case hok | hσ => (simp only [go_sem, H]; try rfl))) | (apply ev_step0; (case hr | hσ => (simp only [go_sem, H]; try rfl)); (case hc => exact hcA)) | (apply ev_step; (case hr | hσ => (intros; simp only [go_sem, H]; try rfl)); (case hc => exact hcA); intro g u; (try clear u); (try clear g)) | fail
    all_goals try clear H
    refine Exists.intro (i + 1, (⟨b.nulls + 1, b.has, b.lo, b.hi, b.sum⟩, u0)) ⟨⟨by simp only; omega, hof, by simp only; omega, hsum⟩, by simp only; omega, ?_⟩
    simp only [hns]
    exact wkA
  | false =>
  rw [hbad, Bool.not_false, Bool.true_and] at hof
  simp only [hN, Bool.false_eq_true, if_false] at hof
  have hnt : (numsV (l.take i)).length ≤ 16777216 := by
    have := numsV_len (l.take i)
    rw [List.length_take] at this
    omega
  have hap : ∀ x : Int, ((numsV (l.take i)) ++ [x]).map (fun n => [Dat.lit (.int .i64 n)]) = (numsV (l.take i)).map (fun n => [Dat.lit (.int .i64 n)]) ++ [[.lit (.int .i64 x)]] := fun x => by simp
  obtain ⟨bn, bh, bl, bi, bsm⟩ := b
  simp only at hof hn0 hn1 hsum
  subst hsum
  cases bh with
  | true =>
    rw [Bool.true_and] at hof
    cases hk : (v.k != bl.k) with
    | true =>
      rw [hk, if_pos rfl] at hof
      have e : ofM l = (zeroBd, 6) := by unfold ofM; rw [← hof]
      rw [e]
      all_goals have H := And.intro hdec (And.intro hx (And.intro hq hk))
      repeat' first | refine awp_seq ?_ | refine awp_block ?_ | refine awp_skip ?_ | (apply regB; (case hd => exact hdA); intro K hK) | (apply ev_guardU; (case hj | hu | hσ => (simp only [go_sem, H]; try rfl))) | ((first | refine awp_cond _ (by rfl) ?_ ?_ | ((first | apply ev_guardT | apply ev_guardF); (case hj | hb => (simp only [go_sem, H]; try rfl)))) <;> (first | refine ttA ?_ | refine ffA ?_ | (intro hb; first | (cases hb; done) | simp only [hb] | skip))) | ((first | apply awp_exit | apply awp_ret); refine tqA ?_) | (refine ev_nil (hK _ ?_); clear hK K) | (apply ev_call0; (case hys => (simp only [go_sem, H]; try rfl)); (case hs => first | exact h40 ..); (case hok | hσ => (simp only [go_sem, H]; try rfl))) | (apply ev_step0; (case hr | hσ => (simp only [go_sem, H]; try rfl)); (case hc => exact hcA)) | (apply ev_step; (case hr | hσ => (intros; simp only [go_sem, H]; try rfl)); (case hc => exact hcA); intro g u; (try clear u); (try clear g)) | fail
      all_goals try clear H
      all_goals (refine resR_moreA ?_; simp only [go_sem])
      refine ⟨LeA.refl _, LeA.refl _, trivial⟩
    | false =>
      rw [hk, if_neg Bool.false_ne_true] at hof
      have a1 := f41_spec v bl
      have a2 := f41_spec v bi
      have hofI : ofIn ⟨bn, true, bl, bi, 0⟩ v = ⟨bn, true, if cmpV v bl < 0 then v else bl, if cmpV v bi > 0 then v else bi, 0⟩ := by
        simp only [ofIn, startV, if_true, lowV, highV]
        split <;> simp only <;> split <;> rfl
      rw [hofI] at hof
      generalize cmpV v bl = c1 at *
      generalize cmpV v bi = c2 at *
      cases hk2 : (v.k == 2) with
      | false =>
        rw [hk2, if_neg Bool.false_ne_true] at hns
        by_cases h1 : c1 < 0 <;> by_cases h2 : c2 > 0 <;> simp only [h1, h2, if_true, if_false] at hof
        all_goals (first | have d1 : decide (c1 < 0) = true := decide_eq_true h1 | have d1 : decide (c1 < 0) = false := decide_eq_false h1)
        all_goals (first | have d2 : decide (c2 > 0) = true := decide_eq_true h2 | have d2 : decide (c2 > 0) = false := decide_eq_false h2)
        all_goals
          all_goals have H := And.intro hdec (And.intro hx (And.intro hq (And.intro hk (And.intro hk2 (And.intro d1 d2)))))
          repeat' first | refine awp_seq ?_ | refine awp_block ?_ | refine awp_skip ?_ | (apply regB; (case hd => exact hdA); intro K hK) | (apply ev_guardU; (case hj | hu | hσ => (simp only [go_sem, H]; try rfl))) | ((first | refine awp_cond _ (by rfl) ?_ ?_ | ((first | apply ev_guardT | apply ev_guardF); (case hj | hb => (simp only [go_sem, H]; try rfl)))) <;> (first | refine ttA ?_ | refine ffA ?_ | (intro hb; first | (cases hb; done) | simp only [hb] | skip))) | ((first | apply awp_exit | apply awp_ret); refine tqA ?_) | (refine ev_nil (hK _ ?_); clear hK K) | (apply ev_call0; (case hys => (simp only [go_sem, H]; try rfl)); (case hs => first | exact h40 .. | exact a1 .. | exact a2 ..); (case hok | hσ => (simp only [go_sem, H]; try rfl))) | (apply ev_step0; (case hr | hσ => (simp only [go_sem, H]; try rfl)); (case hc => exact hcA)) | (apply ev_step; (case hr | hσ => (intros; simp only [go_sem, H]; try rfl)); (case hc => exact hcA); intro g u; (try clear u); (try clear g)) | fail
          all_goals try clear H
          refine Exists.intro (i + 1, (_, u0)) ⟨⟨by simp only; omega, hof, by simp only; omega, rfl⟩, by simp only; omega, ?_⟩
          simp only [hns, hap]
          exact wkA
      | true =>
        rw [hk2, if_pos rfl] at hns
        by_cases h1 : c1 < 0 <;> by_cases h2 : c2 > 0 <;> simp only [h1, h2, if_true, if_false] at hof
        all_goals (first | have d1 : decide (c1 < 0) = true := decide_eq_true h1 | have d1 : decide (c1 < 0) = false := decide_eq_false h1)
        all_goals (first | have d2 : decide (c2 > 0) = true := decide_eq_true h2 | have d2 : decide (c2 > 0) = false := decide_eq_false h2)
        all_goals
          all_goals have H := And.intro hdec (And.intro hx (And.intro hq (And.intro hk (And.intro hk2 (And.intro d1 d2)))))
          repeat' first | refine awp_seq ?_ | refine awp_block ?_ | refine awp_skip ?_ | (apply regB; (case hd => exact hdA); intro K hK) | (apply ev_guardU; (case hj | hu | hσ => (simp only [go_sem, H]; try rfl))) | ((first | refine awp_cond _ (by rfl) ?_ ?_ | ((first | apply ev_guardT | apply ev_guardF); (case hj | hb => (simp only [go_sem, H]; try rfl)))) <;> (first | refine ttA ?_ | refine ffA ?_ | (intro hb; first | (cases hb; done) | simp only [hb] | skip))) | ((first | apply awp_exit | apply awp_ret); refine tqA ?_) | (refine ev_nil (hK _ ?_); clear hK K) | (apply ev_call0; (case hys => (simp only [go_sem, H]; try rfl)); (case hs => first | exact h40 .. | exact a1 .. | exact a2 ..); (case hok | hσ => (simp only [go_sem, H]; try rfl))) | (apply ev_step0; (case hr | hσ => (simp only [go_sem, H]; try rfl)); (case hc => exact hcA)) | (apply ev_step; (case hr | hσ => (intros; simp only [go_sem, H]; try rfl)); (case hc => exact hcA); intro g u; (try clear u); (try clear g)) | fail
          all_goals try clear H
          refine Exists.intro (i + 1, (_, u)) ⟨⟨by simp only; omega, hof, by simp only; omega, rfl⟩, by simp only; omega, ?_⟩
          simp only [hns, hap]
          exact wkA
  | false =>
    have a1 := f41_spec v v
    rw [cmpV_self] at a1
    have hofI : ofIn ⟨bn, false, bl, bi, 0⟩ v = ⟨bn, true, v, v, 0⟩ := by
      simp [ofIn, startV, lowV, highV, cmpV_self]
    rw [Bool.false_and, if_neg Bool.false_ne_true, hofI] at hof
    cases hk2 : (v.k == 2) with
    | false =>
      rw [hk2, if_neg Bool.false_ne_true] at hns
      all_goals have H := And.intro hdec (And.intro hx (And.intro hq hk2))
      repeat' first | refine awp_seq ?_ | refine awp_block ?_ | refine awp_skip ?_ | (apply regB; (case hd => exact hdA); intro K hK) | (apply ev_guardU; (case hj | hu | hσ => (simp only [go_sem, H]; try rfl))) | ((first | refine awp_cond _ (by rfl) ?_ ?_ | ((first | apply ev_guardT | apply ev_guardF); (case hj | hb => (simp only [go_sem, H]; try rfl)))) <;> (first | refine ttA ?_ | refine ffA ?_ | (intro hb; first | (cases hb; done) | simp only [hb] | skip))) | ((first | apply awp_exit | apply awp_ret); refine tqA ?_) | (refine ev_nil (hK _ ?_); clear hK K) | (apply ev_call0; (case hys => (simp only [go_sem, H]; try rfl)); (case hs => first | exact h40 .. | exact a1 ..); (case hok | hσ => (simp only [go_sem, H]; try rfl))) | (apply regDB; (case hd => exact hdA); (case' h => (intro K hK; (repeat' first | (apply evd_nil; refine (hK _ ?_); clear hK K) | (apply evd_step0; (case hr | hi | hσ => (simp only [go_sem, H]; try rfl)); (case hc => exact hcA)) | (apply evd_step; (case hr | hi | hw | hσ => (intros; simp only [go_sem, H]; try rfl)); (case hc => exact hcA); (case' hk => (intro g u; (try clear u); (try clear g)))) | fail))); (case hB => kernel_rfl)) | (apply ev_step0; (case hr | hσ => (simp only [go_sem, H]; try rfl)); (case hc => exact hcA)) | (apply ev_step; (case hr | hσ => (intros; simp only [go_sem, H]; try rfl)); (case hc => exact hcA); intro g u; (try clear u); (try clear g)) | fail
      all_goals try clear H
      refine Exists.intro (i + 1, (_, u0)) ⟨⟨by simp only; omega, hof, by simp only; omega, rfl⟩, by simp only; omega, ?_⟩
      simp only [hns, hap]
      exact wkA
    | true =>
      rw [hk2, if_pos rfl] at hns
      all_goals have H := And.intro hdec (And.intro hx (And.intro hq hk2))
      repeat' first | refine awp_seq ?_ | refine awp_block ?_ | refine awp_skip ?_ | (apply regB; (case hd => exact hdA); intro K hK) | (apply ev_guardU; (case hj | hu | hσ => (simp only [go_sem, H]; try rfl))) | ((first | refine awp_cond _ (by rfl) ?_ ?_ | ((first | apply ev_guardT | apply ev_guardF); (case hj | hb => (simp only [go_sem, H]; try rfl)))) <;> (first | refine ttA ?_ | refine ffA ?_ | (intro hb; first | (cases hb; done) | simp only [hb] | skip))) | ((first | apply awp_exit | apply awp_ret); refine tqA ?_) | (refine ev_nil (hK _ ?_); clear hK K) | (apply ev_call0; (case hys => (simp only [go_sem, H]; try rfl)); (case hs => first | exact h40 .. | exact a1 ..); (case hok | hσ => (simp only [go_sem, H]; try rfl))) | (apply regDB; (case hd => exact hdA); (case' h => (intro K hK; (repeat' first | (apply evd_nil; refine (hK _ ?_); clear hK K) | (apply evd_step0; (case hr | hi | hσ => (simp only [go_sem, H]; try rfl)); (case hc => exact hcA)) | (apply evd_step; (case hr | hi | hw | hσ => (intros; simp only [go_sem, H]; try rfl)); (case hc => exact hcA); (case' hk => (intro g u; (try clear u); (try clear g)))) | fail))); (case hB => kernel_rfl)) | (apply ev_step0; (case hr | hσ => (simp only [go_sem, H]; try rfl)); (case hc => exact hcA)) | (apply ev_step; (case hr | hσ => (intros; simp only [go_sem, H]; try rfl)); (case hc => exact hcA); intro g u; (try clear u); (try clear g)) | fail
      all_goals try clear H
      refine Exists.intro (i + 1, (_, u)) ⟨⟨by simp only; omega, hof, by simp only; omega, rfl⟩, by simp only; omega, ?_⟩
      simp only [hns, hap]
      exact wkA
end
section
set_option linter.unusedVariables false
set_option linter.unusedSimpArgs false
open Go.RowKit
attribute [local irreducible] Spec SpecF SpecN
attribute [local irreducible] AWp evOps evD
abbrev got (x : Bd × Int) : List AV := [litI .i64 x.1.nulls, litB x.1.has, litI .i64 x.1.lo.k, litI .i64 x.1.lo.i, litS x.1.lo.s, litI .i64 x.1.hi.k, litI .i64 x.1.hi.i, litS x.1.hi.s, litI .i64 x.1.sum, litI .i64 x.2]
theorem f12_spec (l : List Vl) (hb : ∀ v ∈ l, VlOk v) (hl : l.length ≤ 16777216) : Spec Tryd.prog 12 [.d (vls l)] (.agg (got (ofM l))) := by
  have h35 := f35_spec l hb hl
  refine spec_of_awp (fn := Tryd.f12) Tryd.func12 (by kernel_rfl) rfl ?_
  intro w0 C0
  simp only [Tryd.ntmps12, go_sem]
  repeat' first | refine awp_seq ?_ | (apply regB; (case hd => exact hdA); intro K hK) | (apply awp_ret; refine tqA ?_) | (refine ev_nil (hK _ ?_); clear hK K) | (apply ev_call0; (case hys => (simp only [go_sem]; try rfl)); (case hs => first | exact h35 ..); (case hok | hσ => (simp only [go_sem]; try rfl))) | (apply ev_step0; (case hr | hσ => (simp only [go_sem]; try rfl)); (case hc => exact hcA)) | (apply ev_step; (case hr | hσ => (intros; simp only [go_sem]; try rfl)); (case hc => exact hcA); intro g u; (try clear u); (try clear g)) | fail
  all_goals (refine resR_oneA ?_; simp only [go_sem])
  exact LeA.refl _
def bareB (b : Bd) : Bool := ((b.lo.k == 0) && ((b.lo.i == 0) && noS b.lo.s)) && (((b.hi.k == 0) && ((b.hi.i == 0) && noS b.hi.s)) && (b.sum == 0))
def validB (b : Bd) : Bool :=
  if decide (b.nulls < 0) = true then false else if decide (b.nulls > 4000000000000000000) = true then false else if decide (b.sum > 4000000000000000000) = true then false else if decide (b.sum < -4000000000000000000) = true then false
  else if b.has = false then bareB b
  else if wideV b.lo = false then false else if wideV b.hi = false then false else if isNull b.lo = true then false else if (b.lo.k == b.hi.k) = false then false else if decide (cmpV b.lo b.hi ≤ 0) = false then false
  else if (b.lo.k == 2) = true then true else (b.sum == 0)
set_option maxHeartbeats 8000000 in
theorem f16_spec (b : Bd) (hlo : b.lo.s.size ≤ 4611686018427387904) (hhi : b.hi.s.size ≤ 4611686018427387904) : Spec Tryd.prog 16 [.agg (bd b)] (litB (validB b)) := by
  have a1 := f40_spec b.lo hlo
  have a2 := f40_spec b.hi hhi
  have a3 := f41_spec b.lo b.hi
  have hq : ((b.lo.k == 0) && ((b.lo.i == 0) && (b.lo.s.toList == (⟨#[]⟩ : ByteArray).toList))) = isNull b.lo := rfl
  unfold validB bareB
  cases d1 : (decide (b.nulls < 0)) with
  | true =>
    simp only [d1, if_true, if_false, Bool.false_eq_true, reduceCtorEq]
    refine spec_of_awp (fn := Tryd.f16) Tryd.func16 (by kernel_rfl) rfl ?_
    intro w0 C0
    simp only [Tryd.ntmps16, go_sem]
    repeat' first | refine awp_seq ?_ | refine awp_block ?_ | refine awp_skip ?_ | (apply regB; (case hd => exact hdA); intro K hK) | (apply ev_guardU; (case hj | hu | hσ => (simp only [go_sem, d1]; try rfl))) | ((first | refine awp_cond _ (by rfl) ?_ ?_ | ((first | apply ev_guardT | apply ev_guardF); (case hj | hb => (simp only [go_sem, d1]; try rfl)))) <;> (first | refine ttA ?_ | refine ffA ?_ | (intro hb; first | (cases hb; done) | simp only [hb] | skip))) | ((first | apply awp_exit | apply awp_ret); refine tqA ?_) | (refine ev_nil (hK _ ?_); clear hK K) | (apply ev_step0; (case hr | hσ => (simp only [go_sem, d1]; try rfl)); (case hc => exact hcA)) | (apply ev_step; (case hr | hσ => (intros; simp only [go_sem, d1]; try rfl)); (case hc => exact hcA); intro g u; (try clear u); (try clear g)) | fail
    all_goals (refine resR_oneA ?_; simp only [go_sem])
    first | exact LeA.refl _ | (refine LeA.b ?_; simp)
  | false =>
  cases d2 : (decide (b.nulls > 4000000000000000000)) with
  | true =>
    simp only [d1, d2, if_true, if_false, Bool.false_eq_true, reduceCtorEq]
    refine spec_of_awp (fn := Tryd.f16) Tryd.func16 (by kernel_rfl) rfl ?_
    intro w0 C0
    simp only [Tryd.ntmps16, go_sem]
    all_goals have H := And.intro d1 d2
    repeat' first | refine awp_seq ?_ | refine awp_block ?_ | refine awp_skip ?_ | (apply regB; (case hd => exact hdA); intro K hK) | (apply ev_guardU; (case hj | hu | hσ => (simp only [go_sem, H]; try rfl))) | ((first | refine awp_cond _ (by rfl) ?_ ?_ | ((first | apply ev_guardT | apply ev_guardF); (case hj | hb => (simp only [go_sem, H]; try rfl)))) <;> (first | refine ttA ?_ | refine ffA ?_ | (intro hb; first | (cases hb; done) | simp only [hb] | skip))) | ((first | apply awp_exit | apply awp_ret); refine tqA ?_) | (refine ev_nil (hK _ ?_); clear hK K) | (apply ev_step0; (case hr | hσ => (simp only [go_sem, H]; try rfl)); (case hc => exact hcA)) | (apply ev_step; (case hr | hσ => (intros; simp only [go_sem, H]; try rfl)); (case hc => exact hcA); intro g u; (try clear u); (try clear g)) | fail
    all_goals try clear H
    all_goals (refine resR_oneA ?_; simp only [go_sem])
    first | exact LeA.refl _ | (refine LeA.b ?_; simp)
  | false =>
  cases d3 : (decide (b.sum > 4000000000000000000)) with
  | true =>
    simp only [d1, d2, d3, if_true, if_false, Bool.false_eq_true, reduceCtorEq]
    refine spec_of_awp (fn := Tryd.f16) Tryd.func16 (by kernel_rfl) rfl ?_
    intro w0 C0
    simp only [Tryd.ntmps16, go_sem]
    all_goals have H := And.intro d1 (And.intro d2 d3)
    repeat' first | refine awp_seq ?_ | refine awp_block ?_ | refine awp_skip ?_ | (apply regB; (case hd => exact hdA); intro K hK) | (apply ev_guardU; (case hj | hu | hσ => (simp only [go_sem, H]; try rfl))) | ((first | refine awp_cond _ (by rfl) ?_ ?_ | ((first | apply ev_guardT | apply ev_guardF); (case hj | hb => (simp only [go_sem, H]; try rfl)))) <;> (first | refine ttA ?_ | refine ffA ?_ | (intro hb; first | (cases hb; done) | simp only [hb] | skip))) | ((first | apply awp_exit | apply awp_ret); refine tqA ?_) | (refine ev_nil (hK _ ?_); clear hK K) | (apply ev_step0; (case hr | hσ => (simp only [go_sem, H]; try rfl)); (case hc => exact hcA)) | (apply ev_step; (case hr | hσ => (intros; simp only [go_sem, H]; try rfl)); (case hc => exact hcA); intro g u; (try clear u); (try clear g)) | fail
    all_goals try clear H
    all_goals (refine resR_oneA ?_; simp only [go_sem])
    first | exact LeA.refl _ | (refine LeA.b ?_; simp)
  | false =>
  cases d4 : (decide (b.sum < -4000000000000000000)) with
  | true =>
    simp only [d1, d2, d3, d4, if_true, if_false, Bool.false_eq_true, reduceCtorEq]
    refine spec_of_awp (fn := Tryd.f16) Tryd.func16 (by kernel_rfl) rfl ?_
    intro w0 C0
    simp only [Tryd.ntmps16, go_sem]
    all_goals have H := And.intro d1 (And.intro d2 (And.intro d3 d4))
    repeat' first | refine awp_seq ?_ | refine awp_block ?_ | refine awp_skip ?_ | (apply regB; (case hd => exact hdA); intro K hK) | (apply ev_guardU; (case hj | hu | hσ => (simp only [go_sem, H]; try rfl))) | ((first | refine awp_cond _ (by rfl) ?_ ?_ | ((first | apply ev_guardT | apply ev_guardF); (case hj | hb => (simp only [go_sem, H]; try rfl)))) <;> (first | refine ttA ?_ | refine ffA ?_ | (intro hb; first | (cases hb; done) | simp only [hb] | skip))) | ((first | apply awp_exit | apply awp_ret); refine tqA ?_) | (refine ev_nil (hK _ ?_); clear hK K) | (apply ev_step0; (case hr | hσ => (simp only [go_sem, H]; try rfl)); (case hc => exact hcA)) | (apply ev_step; (case hr | hσ => (intros; simp only [go_sem, H]; try rfl)); (case hc => exact hcA); intro g u; (try clear u); (try clear g)) | fail
    all_goals try clear H
    all_goals (refine resR_oneA ?_; simp only [go_sem])
    first | exact LeA.refl _ | (refine LeA.b ?_; simp)
  | false =>
  cases hh : (b.has) with
  | false =>
    simp only [d1, d2, d3, d4, hh, if_true, if_false, Bool.false_eq_true, reduceCtorEq]
    refine spec_of_awp (fn := Tryd.f16) Tryd.func16 (by kernel_rfl) rfl ?_
    intro w0 C0
    simp only [Tryd.ntmps16, go_sem]
    all_goals have H := And.intro d1 (And.intro d2 (And.intro d3 (And.intro d4 hh)))
    repeat' first | refine awp_seq ?_ | refine awp_block ?_ | refine awp_skip ?_ | (apply regB; (case hd => exact hdA); intro K hK) | (apply ev_guardU; (case hj | hu | hσ => (simp only [go_sem, H]; try rfl))) | ((first | refine awp_cond _ (by rfl) ?_ ?_ | ((first | apply ev_guardT | apply ev_guardF); (case hj | hb => (simp only [go_sem, H]; try rfl)))) <;> (first | refine ttA ?_ | refine ffA ?_ | (intro hb; first | (cases hb; done) | simp only [hb] | skip))) | ((first | apply awp_exit | apply awp_ret); refine tqA ?_) | (refine ev_nil (hK _ ?_); clear hK K) | (apply ev_step0; (case hr | hσ => (simp only [go_sem, H]; try rfl)); (case hc => exact hcA)) | (apply ev_step; (case hr | hσ => (intros; simp only [go_sem, H]; try rfl)); (case hc => exact hcA); intro g u; (try clear u); (try clear g)) | fail
    all_goals try clear H
    all_goals (refine resR_oneA ?_; simp only [go_sem])
    refine LeA.b ?_
    first | rfl | (simp only [Bool.and_assoc]; done)
  | true =>
  cases w1 : (wideV b.lo) with
  | false =>
    rw [w1] at a1
    simp only [d1, d2, d3, d4, hh, w1, if_true, if_false, Bool.false_eq_true, reduceCtorEq]
    refine spec_of_awp (fn := Tryd.f16) Tryd.func16 (by kernel_rfl) rfl ?_
    intro w0 C0
    simp only [Tryd.ntmps16, go_sem]
    all_goals have H := And.intro d1 (And.intro d2 (And.intro d3 (And.intro d4 hh)))
    repeat' first | refine awp_seq ?_ | refine awp_block ?_ | refine awp_skip ?_ | (apply regB; (case hd => exact hdA); intro K hK) | (apply ev_guardU; (case hj | hu | hσ => (simp only [go_sem, H]; try rfl))) | ((first | refine awp_cond _ (by rfl) ?_ ?_ | ((first | apply ev_guardT | apply ev_guardF); (case hj | hb => (simp only [go_sem, H]; try rfl)))) <;> (first | refine ttA ?_ | refine ffA ?_ | (intro hb; first | (cases hb; done) | simp only [hb] | skip))) | ((first | apply awp_exit | apply awp_ret); refine tqA ?_) | (refine ev_nil (hK _ ?_); clear hK K) | (apply ev_call0; (case hys => (simp only [go_sem, H]; try rfl)); (case hs => first | exact a1 ..); (case hok | hσ => (simp only [go_sem, H]; try rfl))) | (apply ev_step0; (case hr | hσ => (simp only [go_sem, H]; try rfl)); (case hc => exact hcA)) | (apply ev_step; (case hr | hσ => (intros; simp only [go_sem, H]; try rfl)); (case hc => exact hcA); intro g u; (try clear u); (try clear g)) | fail
    all_goals try clear H
    all_goals (refine resR_oneA ?_; simp only [go_sem])
    first | exact LeA.refl _ | (refine LeA.b ?_; simp)
  | true =>
  cases w2 : (wideV b.hi) with
  | false =>
    rw [w1] at a1
    rw [w2] at a2
    simp only [d1, d2, d3, d4, hh, w1, w2, if_true, if_false, Bool.false_eq_true, reduceCtorEq]
    refine spec_of_awp (fn := Tryd.f16) Tryd.func16 (by kernel_rfl) rfl ?_
    intro w0 C0
    simp only [Tryd.ntmps16, go_sem]
    all_goals have H := And.intro d1 (And.intro d2 (And.intro d3 (And.intro d4 hh)))
    repeat' first | refine awp_seq ?_ | refine awp_block ?_ | refine awp_skip ?_ | (apply regB; (case hd => exact hdA); intro K hK) | (apply ev_guardU; (case hj | hu | hσ => (simp only [go_sem, H]; try rfl))) | ((first | refine awp_cond _ (by rfl) ?_ ?_ | ((first | apply ev_guardT | apply ev_guardF); (case hj | hb => (simp only [go_sem, H]; try rfl)))) <;> (first | refine ttA ?_ | refine ffA ?_ | (intro hb; first | (cases hb; done) | simp only [hb] | skip))) | ((first | apply awp_exit | apply awp_ret); refine tqA ?_) | (refine ev_nil (hK _ ?_); clear hK K) | (apply ev_call0; (case hys => (simp only [go_sem, H]; try rfl)); (case hs => first | exact a1 .. | exact a2 ..); (case hok | hσ => (simp only [go_sem, H]; try rfl))) | (apply ev_step0; (case hr | hσ => (simp only [go_sem, H]; try rfl)); (case hc => exact hcA)) | (apply ev_step; (case hr | hσ => (intros; simp only [go_sem, H]; try rfl)); (case hc => exact hcA); intro g u; (try clear u); (try clear g)) | fail
    all_goals try clear H
    all_goals (refine resR_oneA ?_; simp only [go_sem])
    first | exact LeA.refl _ | (refine LeA.b ?_; simp)
  | true =>
  cases nl : (isNull b.lo) with
  | true =>
    rw [w1] at a1
    rw [w2] at a2
    rw [nl] at hq
    simp only [d1, d2, d3, d4, hh, w1, w2, nl, if_true, if_false, Bool.false_eq_true, reduceCtorEq]
    refine spec_of_awp (fn := Tryd.f16) Tryd.func16 (by kernel_rfl) rfl ?_
    intro w0 C0
    simp only [Tryd.ntmps16, go_sem]
    all_goals have H := And.intro d1 (And.intro d2 (And.intro d3 (And.intro d4 (And.intro hh hq))))
    repeat' first | refine awp_seq ?_ | refine awp_block ?_ | refine awp_skip ?_ | (apply regB; (case hd => exact hdA); intro K hK) | (apply ev_guardU; (case hj | hu | hσ => (simp only [go_sem, H]; try rfl))) | ((first | refine awp_cond _ (by rfl) ?_ ?_ | ((first | apply ev_guardT | apply ev_guardF); (case hj | hb => (simp only [go_sem, H]; try rfl)))) <;> (first | refine ttA ?_ | refine ffA ?_ | (intro hb; first | (cases hb; done) | simp only [hb] | skip))) | ((first | apply awp_exit | apply awp_ret); refine tqA ?_) | (refine ev_nil (hK _ ?_); clear hK K) | (apply ev_call0; (case hys => (simp only [go_sem, H]; try rfl)); (case hs => first | exact a1 .. | exact a2 ..); (case hok | hσ => (simp only [go_sem, H]; try rfl))) | (apply ev_step0; (case hr | hσ => (simp only [go_sem, H]; try rfl)); (case hc => exact hcA)) | (apply ev_step; (case hr | hσ => (intros; simp only [go_sem, H]; try rfl)); (case hc => exact hcA); intro g u; (try clear u); (try clear g)) | fail
    all_goals try clear H
    all_goals (refine resR_oneA ?_; simp only [go_sem])
    first | exact LeA.refl _ | (refine LeA.b ?_; simp)
  | false =>
  cases kk : (b.lo.k == b.hi.k) with
  | false =>
    rw [w1] at a1
    rw [w2] at a2
    rw [nl] at hq
    simp only [d1, d2, d3, d4, hh, w1, w2, nl, kk, if_true, if_false, Bool.false_eq_true, reduceCtorEq]
    refine spec_of_awp (fn := Tryd.f16) Tryd.func16 (by kernel_rfl) rfl ?_
    intro w0 C0
    simp only [Tryd.ntmps16, go_sem]
    all_goals have H := And.intro d1 (And.intro d2 (And.intro d3 (And.intro d4 (And.intro hh (And.intro kk hq)))))
    repeat' first | refine awp_seq ?_ | refine awp_block ?_ | refine awp_skip ?_ | (apply regB; (case hd => exact hdA); intro K hK) | (apply ev_guardU; (case hj | hu | hσ => (simp only [go_sem, H]; try rfl))) | ((first | refine awp_cond _ (by rfl) ?_ ?_ | ((first | apply ev_guardT | apply ev_guardF); (case hj | hb => (simp only [go_sem, H]; try rfl)))) <;> (first | refine ttA ?_ | refine ffA ?_ | (intro hb; first | (cases hb; done) | simp only [hb] | skip))) | ((first | apply awp_exit | apply awp_ret); refine tqA ?_) | (refine ev_nil (hK _ ?_); clear hK K) | (apply ev_call0; (case hys => (simp only [go_sem, H]; try rfl)); (case hs => first | exact a1 .. | exact a2 ..); (case hok | hσ => (simp only [go_sem, H]; try rfl))) | (apply ev_step0; (case hr | hσ => (simp only [go_sem, H]; try rfl)); (case hc => exact hcA)) | (apply ev_step; (case hr | hσ => (intros; simp only [go_sem, H]; try rfl)); (case hc => exact hcA); intro g u; (try clear u); (try clear g)) | fail
    all_goals try clear H
    all_goals (refine resR_oneA ?_; simp only [go_sem])
    first | exact LeA.refl _ | (refine LeA.b ?_; simp)
  | true =>
  cases cc : (decide (cmpV b.lo b.hi ≤ 0)) with
  | false =>
    rw [w1] at a1
    rw [w2] at a2
    rw [nl] at hq
    simp only [d1, d2, d3, d4, hh, w1, w2, nl, kk, cc, if_true, if_false, Bool.false_eq_true, reduceCtorEq]
    refine spec_of_awp (fn := Tryd.f16) Tryd.func16 (by kernel_rfl) rfl ?_
    intro w0 C0
    simp only [Tryd.ntmps16, go_sem]
    all_goals have H := And.intro d1 (And.intro d2 (And.intro d3 (And.intro d4 (And.intro hh (And.intro kk (And.intro cc hq))))))
    repeat' first | refine awp_seq ?_ | refine awp_block ?_ | refine awp_skip ?_ | (apply regB; (case hd => exact hdA); intro K hK) | (apply ev_guardU; (case hj | hu | hσ => (simp only [go_sem, H]; try rfl))) | ((first | refine awp_cond _ (by rfl) ?_ ?_ | ((first | apply ev_guardT | apply ev_guardF); (case hj | hb => (simp only [go_sem, H]; try rfl)))) <;> (first | refine ttA ?_ | refine ffA ?_ | (intro hb; first | (cases hb; done) | simp only [hb] | skip))) | ((first | apply awp_exit | apply awp_ret); refine tqA ?_) | (refine ev_nil (hK _ ?_); clear hK K) | (apply ev_call0; (case hys => (simp only [go_sem, H]; try rfl)); (case hs => first | exact a1 .. | exact a2 .. | exact a3 ..); (case hok | hσ => (simp only [go_sem, H]; try rfl))) | (apply ev_step0; (case hr | hσ => (simp only [go_sem, H]; try rfl)); (case hc => exact hcA)) | (apply ev_step; (case hr | hσ => (intros; simp only [go_sem, H]; try rfl)); (case hc => exact hcA); intro g u; (try clear u); (try clear g)) | fail
    all_goals try clear H
    all_goals (refine resR_oneA ?_; simp only [go_sem])
    first | exact LeA.refl _ | (refine LeA.b ?_; simp)
  | true =>
  cases k2 : (b.lo.k == 2) with
  | true =>
    cases s0 : (b.sum == 0) with
    | true =>
      rw [w1] at a1
      rw [w2] at a2
      rw [nl] at hq
      simp only [d1, d2, d3, d4, hh, w1, w2, nl, kk, cc, k2, s0, if_true, if_false, Bool.false_eq_true, reduceCtorEq]
      refine spec_of_awp (fn := Tryd.f16) Tryd.func16 (by kernel_rfl) rfl ?_
      intro w0 C0
      simp only [Tryd.ntmps16, go_sem]
      all_goals have H := And.intro d1 (And.intro d2 (And.intro d3 (And.intro d4 (And.intro hh (And.intro kk (And.intro cc (And.intro k2 (And.intro s0 hq))))))))
      repeat' first | refine awp_seq ?_ | refine awp_block ?_ | refine awp_skip ?_ | (apply regB; (case hd => exact hdA); intro K hK) | (apply ev_guardU; (case hj | hu | hσ => (simp only [go_sem, H]; try rfl))) | ((first | refine awp_cond _ (by rfl) ?_ ?_ | ((first | apply ev_guardT | apply ev_guardF); (case hj | hb => (simp only [go_sem, H]; try rfl)))) <;> (first | refine ttA ?_ | refine ffA ?_ | (intro hb; first | (cases hb; done) | simp only [hb] | skip))) | ((first | apply awp_exit | apply awp_ret); refine tqA ?_) | (refine ev_nil (hK _ ?_); clear hK K) | (apply ev_call0; (case hys => (simp only [go_sem, H]; try rfl)); (case hs => first | exact a1 .. | exact a2 .. | exact a3 ..); (case hok | hσ => (simp only [go_sem, H]; try rfl))) | (apply ev_step0; (case hr | hσ => (simp only [go_sem, H]; try rfl)); (case hc => exact hcA)) | (apply ev_step; (case hr | hσ => (intros; simp only [go_sem, H]; try rfl)); (case hc => exact hcA); intro g u; (try clear u); (try clear g)) | fail
      all_goals try clear H
      all_goals (refine resR_oneA ?_; simp only [go_sem])
      first | exact LeA.refl _ | (refine LeA.b ?_; simp)
    | false =>
      rw [w1] at a1
      rw [w2] at a2
      rw [nl] at hq
      simp only [d1, d2, d3, d4, hh, w1, w2, nl, kk, cc, k2, s0, if_true, if_false, Bool.false_eq_true, reduceCtorEq]
      refine spec_of_awp (fn := Tryd.f16) Tryd.func16 (by kernel_rfl) rfl ?_
      intro w0 C0
      simp only [Tryd.ntmps16, go_sem]
      all_goals have H := And.intro d1 (And.intro d2 (And.intro d3 (And.intro d4 (And.intro hh (And.intro kk (And.intro cc (And.intro k2 (And.intro s0 hq))))))))
      repeat' first | refine awp_seq ?_ | refine awp_block ?_ | refine awp_skip ?_ | (apply regB; (case hd => exact hdA); intro K hK) | (apply ev_guardU; (case hj | hu | hσ => (simp only [go_sem, H]; try rfl))) | ((first | refine awp_cond _ (by rfl) ?_ ?_ | ((first | apply ev_guardT | apply ev_guardF); (case hj | hb => (simp only [go_sem, H]; try rfl)))) <;> (first | refine ttA ?_ | refine ffA ?_ | (intro hb; first | (cases hb; done) | simp only [hb] | skip))) | ((first | apply awp_exit | apply awp_ret); refine tqA ?_) | (refine ev_nil (hK _ ?_); clear hK K) | (apply ev_call0; (case hys => (simp only [go_sem, H]; try rfl)); (case hs => first | exact a1 .. | exact a2 .. | exact a3 ..); (case hok | hσ => (simp only [go_sem, H]; try rfl))) | (apply ev_step0; (case hr | hσ => (simp only [go_sem, H]; try rfl)); (case hc => exact hcA)) | (apply ev_step; (case hr | hσ => (intros; simp only [go_sem, H]; try rfl)); (case hc => exact hcA); intro g u; (try clear u); (try clear g)) | fail
      all_goals try clear H
      all_goals (refine resR_oneA ?_; simp only [go_sem])
      first | exact LeA.refl _ | (refine LeA.b ?_; simp)
  | false =>
    cases s0 : (b.sum == 0) with
    | true =>
      rw [w1] at a1
      rw [w2] at a2
      rw [nl] at hq
      simp only [d1, d2, d3, d4, hh, w1, w2, nl, kk, cc, k2, s0, if_true, if_false, Bool.false_eq_true, reduceCtorEq]
      refine spec_of_awp (fn := Tryd.f16) Tryd.func16 (by kernel_rfl) rfl ?_
      intro w0 C0
      simp only [Tryd.ntmps16, go_sem]
      all_goals have H := And.intro d1 (And.intro d2 (And.intro d3 (And.intro d4 (And.intro hh (And.intro kk (And.intro cc (And.intro k2 (And.intro s0 hq))))))))
      repeat' first | refine awp_seq ?_ | refine awp_block ?_ | refine awp_skip ?_ | (apply regB; (case hd => exact hdA); intro K hK) | (apply ev_guardU; (case hj | hu | hσ => (simp only [go_sem, H]; try rfl))) | ((first | refine awp_cond _ (by rfl) ?_ ?_ | ((first | apply ev_guardT | apply ev_guardF); (case hj | hb => (simp only [go_sem, H]; try rfl)))) <;> (first | refine ttA ?_ | refine ffA ?_ | (intro hb; first | (cases hb; done) | simp only [hb] | skip))) | ((first | apply awp_exit | apply awp_ret); refine tqA ?_) | (refine ev_nil (hK _ ?_); clear hK K) | (apply ev_call0; (case hys => (simp only [go_sem, H]; try rfl)); (case hs => first | exact a1 .. | exact a2 .. | exact a3 ..); (case hok | hσ => (simp only [go_sem, H]; try rfl))) | (apply ev_step0; (case hr | hσ => (simp only [go_sem, H]; try rfl)); (case hc => exact hcA)) | (apply ev_step; (case hr | hσ => (intros; simp only [go_sem, H]; try rfl)); (case hc => exact hcA); intro g u; (try clear u); (try clear g)) | fail
      all_goals try clear H
      all_goals (refine resR_oneA ?_; simp only [go_sem])
      first | exact LeA.refl _ | (refine LeA.b ?_; simp)
    | false =>
      rw [w1] at a1
      rw [w2] at a2
      rw [nl] at hq
      simp only [d1, d2, d3, d4, hh, w1, w2, nl, kk, cc, k2, s0, if_true, if_false, Bool.false_eq_true, reduceCtorEq]
      refine spec_of_awp (fn := Tryd.f16) Tryd.func16 (by kernel_rfl) rfl ?_
      intro w0 C0
      simp only [Tryd.ntmps16, go_sem]
      all_goals have H := And.intro d1 (And.intro d2 (And.intro d3 (And.intro d4 (And.intro hh (And.intro kk (And.intro cc (And.intro k2 (And.intro s0 hq))))))))
      repeat' first | refine awp_seq ?_ | refine awp_block ?_ | refine awp_skip ?_ | (apply regB; (case hd => exact hdA); intro K hK) | (apply ev_guardU; (case hj | hu | hσ => (simp only [go_sem, H]; try rfl))) | ((first | refine awp_cond _ (by rfl) ?_ ?_ | ((first | apply ev_guardT | apply ev_guardF); (case hj | hb => (simp only [go_sem, H]; try rfl)))) <;> (first | refine ttA ?_ | refine ffA ?_ | (intro hb; first | (cases hb; done) | simp only [hb] | skip))) | ((first | apply awp_exit | apply awp_ret); refine tqA ?_) | (refine ev_nil (hK _ ?_); clear hK K) | (apply ev_call0; (case hys => (simp only [go_sem, H]; try rfl)); (case hs => first | exact a1 .. | exact a2 .. | exact a3 ..); (case hok | hσ => (simp only [go_sem, H]; try rfl))) | (apply ev_step0; (case hr | hσ => (simp only [go_sem, H]; try rfl)); (case hc => exact hcA)) | (apply ev_step; (case hr | hσ => (intros; simp only [go_sem, H]; try rfl)); (case hc => exact hcA); intro g u; (try clear u); (try clear g)) | fail
      all_goals try clear H
      all_goals (refine resR_oneA ?_; simp only [go_sem])
      first | exact LeA.refl _ | (refine LeA.b ?_; simp)
end
end Go.Proofs.YtopigomfhggkoaaDoor.A
