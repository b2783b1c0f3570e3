/- BoundsMatchesReference: the walk. Data of the arguments' types. Data of the arguments' types: values, bounds. -/
import Derived.Test.YtopigomfhggkoaaDoorJV13
import Derived.Test.YtopigomfhggkoaaDoorJV0
import Derived.Test.YtopigomfhggkoaaDoorJV3
import Derived.Test.YtopigomfhggkoaaDoorJR2
namespace Go.Proofs.YtopigomfhggkoaaDoor.A
section
set_option linter.unusedVariables false
set_option linter.unusedSimpArgs false
open Go.RowKit
attribute [local irreducible] Spec SpecF SpecN
attribute [local irreducible] AWp evOps evD
theorem two {a b G P : Prop} (dd : a ∨ b) (h1 : a → G → P) (h2 : b → G → P) (g : G) : P := dd.elim (fun h => h1 h g) (fun h => h2 h g)
set_option maxHeartbeats 40000000 in
set_option maxRecDepth 100000 in
theorem f3_spec (l : List Vl) (hv : ∀ v ∈ l, VlOk v) (k0 k1 k2 : List Int) (hb0 : ∀ x ∈ k0, 0 ≤ x ∧ x < 256) (hb1 : ∀ x ∈ k1, 0 ≤ x ∧ x < 256) (hb2 : ∀ x ∈ k2, 0 ≤ x ∧ x < 256) (z0 z1 z2 : Bd) (hz0 : BdOk z0) (hz1 : BdOk z1) (hz2 : BdOk z2) :
    Spec Tryd.prog 3 [.d (vls l), .agg [.d (bytesD k0), .d (bytesD k1), .d (bytesD k2)], .agg (bds3 z0 z1 z2)] (litB true) := by
  have h7 := f7_spec
  by_cases hlen : l.length > 30
  · have d1 : decide ((l.length : Int) > 30) = true := decide_eq_true (by omega)
    simp only [bds3, bd, List.cons_append, List.nil_append]
    refine spec_of_awp (fn := Tryd.f3) Tryd.func3 (by kernel_rfl) rfl ?_
    intro w0 C0
    simp only [Tryd.ntmps3, go_sem]
    repeat' first | refine awp_seq ?_ | refine awp_block ?_ | refine awp_skip ?_ | (apply regB; (case hd => exact hdA); intro K hK) | (apply ev_guardU; (case hj | hu | hσ => (simp only [go_sem, d1]; try rfl))) | ((first | refine awp_cond _ (by rfl) ?_ ?_ | ((first | apply ev_guardT | apply ev_guardF); (case hj | hb => (simp only [go_sem, d1]; try rfl)))) <;> (first | refine ttA ?_ | refine ffA ?_ | (intro hb; first | (cases hb; done) | simp only [hb] | skip))) | ((first | apply awp_exit | apply awp_ret); refine tqA ?_) | (refine ev_nil (hK _ ?_); clear hK K) | (apply ev_call0; (case hys => (simp only [go_sem, d1]; try rfl)); (case hs => first | exact h7 ..); (case hok | hσ => (simp only [go_sem, d1]; try rfl))) | (apply ev_step0; (case hr | hσ => (simp only [go_sem, d1]; try rfl)); (case hc => exact hcA)) | (apply ev_step; (case hr | hσ => (intros; simp only [go_sem, d1]; try rfl)); (case hc => exact hcA); intro g u; (try clear u); (try clear g)) | fail
    all_goals (refine resR_oneA ?_; simp only [go_sem])
    exact LeA.refl _
  have d1 : decide ((l.length : Int) > 30) = false := decide_eq_false (by omega)
  have h8 := f8_spec k0 hb0
  have hts := typesM_ok k0
  have hl : (typesM k0).length ≤ 6 := by rw [typesM_len]; omega
  generalize typesM k0 = ts at *
  obtain ⟨e, he, hsz, h9⟩ := made hl hb1
  obtain ⟨q1, hq1⟩ : ∃ q, q = k1.drop (k1.length / 2) := ⟨_, rfl⟩
  obtain ⟨q2, hq2⟩ : ∃ q, q = k2.drop (k2.length / 2) := ⟨_, rfl⟩
  have hbs : ∀ b ∈ [k2, k1, k0, q2, q1], ∀ x ∈ b, 0 ≤ x ∧ x < 256 := by
    intro b hb x hx
    simp only [List.mem_cons, List.not_mem_nil, or_false] at hb
    rcases hb with rfl | rfl | rfl | rfl | rfl
    · exact hb2 x hx
    · exact hb1 x hx
    · exact hb0 x hx
    · rw [hq2] at hx; exact hb2 x (List.mem_of_mem_drop hx)
    · rw [hq1] at hx; exact hb1 x (List.mem_of_mem_drop hx)
  have h10 := f10_spec ts hts hl _ hbs
  obtain ⟨ro, rl⟩ := rowsM_ok hts hbs
  generalize rowsM ts [k2, k1, k0, q2, q1] = R at *
  simp only [lists, List.map_cons, List.map_nil] at h10
  have h11 := f11_spec ts hl R ro.1 ro.vals
  have cb := columns_bd ro
  have clen := columnsM_len ts.length R
  have cis := fun (i : Nat) (hi : i < ts.length) => (col_is ro hi).2
  have cat := fun (i : Nat) (hi : i < ts.length) => columns_at (rows := R) hi
  have cok := fun (i : Nat) (hi : i < ts.length) => (col_gd ro hi).ok
  have ccol := col_len R
  have rvals := ro.vals
  generalize columnsM ts.length R = B at *
  have h12 := f12_spec l hv (by omega)
  have h13 := f13_spec l hv (by omega)
  generalize hO : ofM l = o at *
  have hd1 : List.drop (k1.length / 2) (List.take k1.length k1) = q1 := by rw [List.take_length, hq1]
  have hd2 : List.drop (k2.length / 2) (List.take k2.length k2) = q2 := by rw [List.take_length, hq2]
  have A0 : ∀ X : List Bd, X.length = ts.length → (∀ b ∈ X, BdOk b) → Alike ts e X := fun X h1 h2 => alike hts hl he hsz h1 h2
  have hfl : (flat (AV.d (argsD e)) && false) = false := Bool.and_false _
  clear he hsz ro
  simp only [exA] at h9
  simp only [bds3, bd, List.cons_append, List.nil_append]
  refine spec_of_awp (fn := Tryd.f3) Tryd.func3 (by kernel_rfl) rfl ?_
  intro w0 C0
  simp only [Tryd.ntmps3, go_sem]
  refine awp_pre (p := k1.length ≤ 9223372036854775807 ∧ k2.length ≤ 9223372036854775807) (fun a w hs => ?_) fun hk => ?_
  · obtain ⟨v, _, hv'⟩ := hs.t.get 1 _ rfl
    have hq := has_lens3 hv'
    rwa [List.length_map, List.length_map] at hq
  have wd1 : IntKind.i64.wrap ((k1.length : Int).tdiv 2) = ((k1.length / 2 : Nat) : Int) := by
    rw [Int.tdiv_eq_ediv_of_nonneg (by omega), wrap_id (by omega)]; omega
  have wd2 : IntKind.i64.wrap ((k2.length : Int).tdiv 2) = ((k2.length / 2 : Nat) : Int) := by
    rw [Int.tdiv_eq_ediv_of_nonneg (by omega), wrap_id (by omega)]; omega
  have le1 : k1.length / 2 ≤ k1.length := by omega
  have le2 : k2.length / 2 ≤ k2.length := by omega
  all_goals have H := And.intro d1 (And.intro wd1 (And.intro wd2 (And.intro hd1 (And.intro hd2 hfl))))
  repeat' first | refine awp_seq ?_ | refine awp_block ?_ | refine awp_skip ?_ | (apply regB; (case hd => exact hdA); intro K hK) | (apply ev_guardU; (case hj | hu | hσ => (simp only [go_sem, H]; try rfl))) | ((first | refine awp_cond _ (by rfl) ?_ ?_ | ((first | apply ev_guardT | apply ev_guardF); (case hj | hb => (simp only [go_sem, H]; try rfl)))) <;> (first | refine ttA ?_ | refine ffA ?_ | (intro hb; first | (cases hb; done) | simp only [hb] | skip))) | ((first | apply awp_exit | apply awp_ret); refine tqA ?_) | (refine ev_nil (hK _ ?_); clear hK K) | (apply ev_call0; (case hys => (simp only [go_sem, H]; try rfl)); (case hs => first | exact h7 .. | exact h8 .. | exact h9 .. | exact h10 .. | exact h11 .. | exact h12 .. | exact h13 ..); (case hok | hσ => (simp only [go_sem, H]; try rfl))) | (apply regDB; (case hd => exact hdA); (case' h => (intro K hK; (repeat' first | (apply evd_nil; refine (hK _ ?_); clear hK K) | (apply evd_guardU0; (case hj | hu | hσ => (simp only [go_sem, H]; try rfl))) | (apply evd_guardU; (case hj | hu | hσ => (simp only [go_sem, H]; try rfl))) | (apply evd_skipT0; (case hj | hb | hσ => (simp only [go_sem, H]; try rfl))) | (apply evd_skipF0; (case hj | hb | hσ => (simp only [go_sem, H]; try rfl))) | (apply evd_skipT; (case hj | hb | hσ => (simp only [go_sem, H]; try rfl))) | (apply evd_skipF; (case hj | hb | hσ => (simp only [go_sem, H]; try rfl))) | (apply evd_guardT; (case hj | hb => (simp only [go_sem, H]; try rfl)); (case' h2 => (intro hb; first | (cases hb; done) | (simp only [hb]) | skip)); (case' h1 => (intro hb; first | (cases hb; done) | (simp only [hb]) | skip))) | (apply evd_guardF; (case hj | hb => (simp only [go_sem, H]; try rfl)); (case' h2 => (intro hb; first | (cases hb; done) | (simp only [hb]) | skip)); (case' h1 => (intro hb; first | (cases hb; done) | (simp only [hb]) | skip))) | (apply evd_call0; (case hi | hys => (simp only [go_sem, H]; try rfl)); (case hs => first | exact h7 .. | exact h8 .. | exact h9 .. | exact h10 .. | exact h11 .. | exact h12 .. | exact h13 ..); (case hok | hw | hσ => (simp only [go_sem, H]; try rfl))) | (apply evd_step0; (case hr | hi | hσ => (simp only [go_sem, H]; try rfl)); (case hc => exact hcA)) | (apply evd_step; (case hr | hi | hw | hσ => (intros; simp only [go_sem, H]; try rfl)); (case hc => exact hcA); (case' hk => (intro g u; (try clear u); (try clear g)))) | fail))); (case hB => kernel_rfl)) | (apply ev_step0; (case hr | hσ => (simp only [go_sem, H]; try rfl)); (case hc => exact hcA)) | (apply ev_step; (case hr | hσ => (intros; simp only [go_sem, H]; try rfl)); (case hc => exact hcA); intro g u; (try clear u); (try clear g)) | fail
  all_goals try clear H
  rename_i g4 g5
  revert g; intro g9
  have nB : B.length ≤ 6 := by omega
  refine awp_loopI (fun i : Nat => i ≤ B.length) (fun i => B.length - i) (fun i => ⟨[.d (vls l), .any, .any, .any, .ptr 4 g4 0, .ptr 5 g5 0, litB false, litB true, .d (tys ts), .ptr 9 g9 0, .d (rowsD R), .d (bds B), litI .i64 (i : Int), .any, .any, .any, .any, .any, .any, .any, .any, .any, .any, .any, .any, .any, .any, .any, .any, .any, .any, .any, .any, .any, .any, .any, .any, .any, .any, .any, .any, .any, .any, .any, .any, .any, .any, .any, .any, .any, .any, .any, .any, .any, .any, .any, .any, .any, .any, .any, .any, .any, .any, .any, .any, .any, .any, .any, .any, .any, .any, .any, .any, .any, .any, .any, .any, .any, .any, .any, .any, .any, .any, .any, .any, .any, .any, .any, .any, .any, .any, .any, .any, .any, .any, .any, .any, .any, .any, .any, .any, .any, .any, .any, .any, .any, .any, .any, .any, .any, .any, .any, .any, .any, .any, .any, .any, .any, .any, .any, .any, .any, .any, .any, .any, .any, .any, .any, .any, .any, .any, .any, .any, .any, .any, .any, .any, .any, .any, .any, .any, .any, .any, .any, .any, .any, .any, .any, .any, .any, .any, .any, .any, .any, .any, .any, .any, .any, .any, .any, .any, .any, .any, .any, .any, .any, .any, .any, .any, .any, .any, .any, .any, .any, .any, .any, .any, .any, .any, .any, .any, .any, .any, .any, .any, .any, .any, .any, .any, .any, .any, .any, .any, .any, .any, .any, .any, .any, .any, .any, .any, .any, .any, .any, .any, .any, .any, .any, .any, .any, .any, .any, .any, .any, .any, .any, .any, .any, .any, .any, .any, .any, .any, .any, .any, .any, .any, .any, .any, .any, .any, .any, .any, .any, .any, .any, .any, .any, .any, .any, .any, .any, .any, .any, .any, .any, .any, .any, .any, .any, .any, .any, .any, .any, .any, .any, .any, .any, .any, .any, .any, .any, .any, .any, .any, .any], [.no, .no, .no, .no, .no, .box g5 (bds3 z0 z1 z2), .no, .no, .no, .box g9 (exA e), .no, .no, .no, .no, .no, .no, .no, .no, .no, .no, .no, .no, .no, .no, .no, .no, .no, .no, .no, .no, .no, .no, .no, .no, .no, .no, .no, .no, .no, .no, .no, .no, .no, .no, .no, .no, .no, .no, .no, .no, .no, .no, .no, .no, .no, .no, .no, .no, .no, .no, .no, .no, .no, .no, .no, .no, .no, .no, .no, .no, .no, .no, .no, .no, .no, .no, .no, .no, .no, .no, .no, .no, .no, .no, .no, .no, .no, .no, .no, .no, .no, .no, .no, .no, .no, .no, .no, .no, .no, .no, .no, .no, .no, .no, .no, .no, .no, .no, .no, .no, .no, .no, .no, .no, .no, .no, .no, .no, .no, .no, .no, .no, .no, .no, .no, .no, .no, .no, .no, .no, .no, .no, .no, .no, .no, .no, .no, .no, .no, .no, .no, .no, .no, .no, .no, .no, .no, .no, .no, .no, .no, .no, .no, .no, .no, .no, .no, .no, .no, .no, .no, .no, .no, .no, .no, .no, .no, .no, .no, .no, .no, .no, .no, .no, .no, .no, .no, .no, .no, .no, .no, .no, .no, .no, .no, .no, .no, .no, .no, .no, .no, .no, .no, .no, .no, .no, .no, .no, .no, .no, .no, .no, .no, .no, .no, .no, .no, .no, .no, .no, .no, .no, .no, .no, .no, .no, .no, .no, .no, .no, .no, .no, .no, .no, .no, .no, .no, .no, .no, .no, .no, .no, .no, .no, .no, .no, .no, .no, .no, .no, .no, .no, .no, .no, .no, .no, .no, .no, .no, .no, .no, .no, .no, .no, .no, .no, .no, .no, .no, .no, .no, .no, .no, .no, .no, .no]⟩) 0 (by omega) ?_ ?_
  · simp only [bds3, bd, List.cons_append, List.nil_append, exA]
    exact wkA
  intro i hi
  simp only [litI, litB, litS] at hi ⊢
  simp only [bds3, bd, List.cons_append, List.nil_append, exA]
  by_cases hlt : i < B.length
  · have dA : decide ((i : Int) < (B.length : Int)) = true := decide_eq_true (by omega)
    repeat' first | refine awp_seq ?_ | refine awp_block ?_ | refine awp_skip ?_ | (apply regB; (case hd => exact hdA); intro K hK) | (apply ev_guardU; (case hj | hu | hσ => (simp only [go_sem, dA]; try rfl))) | ((first | refine awp_cond _ (by rfl) ?_ ?_ | ((first | apply ev_guardT | apply ev_guardF); (case hj | hb => (simp only [go_sem, dA]; try rfl)))) <;> (first | refine ttA ?_ | refine ffA ?_ | (intro hb; first | (cases hb; done) | simp only [hb] | skip))) | ((first | apply awp_exit | apply awp_ret); refine tqA ?_) | (refine ev_nil (hK _ ?_); clear hK K) | (apply ev_step0; (case hr | hσ => (simp only [go_sem, dA]; try rfl)); (case hc => exact hcA)) | (apply ev_step; (case hr | hσ => (intros; simp only [go_sem, dA]; try rfl)); (case hc => exact hcA); intro g u; (try clear u); (try clear g)) | fail
    refine awp_loopI (fun k : Nat × Value => k.1 ≤ R.length) (fun k => R.length - k.1) (fun k => ⟨[.d (vls l), .any, .any, .any, .ptr 4 g4 0, .ptr 5 g5 0, litB false, litB true, .d (tys ts), .ptr 9 g9 0, .d (rowsD R), .d (bds B), litI .i64 (i : Int), .own 74 k.2, litI .i64 (k.1 : Int), .any, .any, .any, .any, .any, .any, .any, .any, .any, .any, .any, .any, .any, .any, .any, .any, .any, .any, .any, .any, .any, .any, .any, .any, .any, .any, .any, .any, .any, .any, .any, .any, .any, .any, .any, .any, .any, .any, .any, .any, .any, .any, .any, .any, .any, .any, .any, .any, .any, .any, .any, .any, .any, .any, .any, .any, .any, .any, .any, .any, .any, .any, .any, .any, .any, .any, .any, .any, .any, .any, .any, .any, .any, .any, .any, .any, .any, .any, .any, .any, .any, .any, .any, .any, .any, .any, .any, .any, .any, .any, .any, .any, .any, .any, .any, .any, .any, .any, .any, .any, .any, .any, .any, .any, .any, .any, .any, .any, .any, .any, .any, .any, .any, .any, .any, .any, .any, .any, .any, .any, .any, .any, .any, .any, .any, .any, .any, .any, .any, .any, .any, .any, .any, .any, .any, .any, .any, .any, .any, .any, .any, .any, .any, .any, .any, .any, .any, .any, .any, .any, .any, .any, .any, .any, .any, .any, .any, .any, .any, .any, .any, .any, .any, .any, .any, .any, .any, .any, .any, .any, .any, .any, .any, .any, .any, .any, .any, .any, .any, .any, .any, .any, .any, .any, .any, .any, .any, .any, .any, .any, .any, .any, .any, .any, .any, .any, .any, .any, .any, .any, .any, .any, .any, .any, .any, .any, .any, .any, .any, .any, .any, .any, .any, .any, .any, .any, .any, .any, .any, .any, .any, .any, .any, .any, .any, .any, .any, .any, .any, .any, .any, .any, .any, .any, .any, .any, .any, .any, .any, .any, .any, .any, .any, .any, .any, .any, .any, .any, .any, .any, .any], [.no, .no, .no, .no, .no, .box g5 (bds3 z0 z1 z2), .no, .no, .no, .box g9 (exA e), .no, .no, .no, .no, .no, .no, .no, .no, .no, .no, .no, .no, .no, .no, .no, .no, .no, .no, .no, .no, .no, .no, .no, .no, .no, .no, .no, .no, .no, .no, .no, .no, .no, .no, .no, .no, .no, .no, .no, .no, .no, .no, .no, .no, .no, .no, .no, .no, .no, .no, .no, .no, .no, .no, .no, .no, .no, .no, .no, .no, .no, .no, .no, .no, .row k.2 26 3 ((colM (R.take k.1) i).map vlD), .no, .no, .no, .no, .no, .no, .no, .no, .no, .no, .no, .no, .no, .no, .no, .no, .no, .no, .no, .no, .no, .no, .no, .no, .no, .no, .no, .no, .no, .no, .no, .no, .no, .no, .no, .no, .no, .no, .no, .no, .no, .no, .no, .no, .no, .no, .no, .no, .no, .no, .no, .no, .no, .no, .no, .no, .no, .no, .no, .no, .no, .no, .no, .no, .no, .no, .no, .no, .no, .no, .no, .no, .no, .no, .no, .no, .no, .no, .no, .no, .no, .no, .no, .no, .no, .no, .no, .no, .no, .no, .no, .no, .no, .no, .no, .no, .no, .no, .no, .no, .no, .no, .no, .no, .no, .no, .no, .no, .no, .no, .no, .no, .no, .no, .no, .no, .no, .no, .no, .no, .no, .no, .no, .no, .no, .no, .no, .no, .no, .no, .no, .no, .no, .no, .no, .no, .no, .no, .no, .no, .no, .no, .no, .no, .no, .no, .no, .no, .no, .no, .no, .no, .no, .no, .no, .no, .no, .no, .no, .no, .no, .no, .no, .no, .no, .no, .no, .no, .no, .no, .no, .no, .no, .no, .no, .no, .no, .no, .no, .no, .no, .no, .no, .no, .no, .no, .no, .no, .no, .no, .no]⟩) (0, u) (by simp) ?_ ?_
    · simp only [List.take_zero, colM, List.map_nil, bds3, bd, List.cons_append, List.nil_append, exA]
      exact wkA
    rintro ⟨k, u1⟩ hk
    simp only [litI, litB, litS] at hk ⊢
    simp only [bds3, bd, List.cons_append, List.nil_append, exA]
    by_cases h2 : k < R.length
    · have d2 : decide ((k : Int) < (R.length : Int)) = true := decide_eq_true (by omega)
      have hx := rowsD_at R h2
      have hm := rvals _ (mem_at R [] h2)
      have hs := colM_take R i h2
      have hlen1 : (colM (R.take k) i).length ≤ 12 := by unfold colM; rw [List.length_map, List.length_take]; omega
      generalize colM (R.take k) i = pre at *
      generalize R.getD k [] = r at *
      have hy := vls_at r (i := i) (by omega)
      have hjr : i < r.length := by omega
      generalize r.getD i dV = v at *
      have w2 : IntKind.i64.wrap ((k : Int) + 1) = ((k + 1 : Nat) : Int) := by rw [wrap_id (by omega)]; push_cast; rfl
      all_goals have H := And.intro d2 (And.intro hx (And.intro hy w2))
      repeat' first | refine awp_seq ?_ | refine awp_block ?_ | refine awp_skip ?_ | (apply regB; (case hd => exact hdA); intro K hK) | (apply ev_guardU; (case hj | hu | hσ => (simp only [go_sem, H]; try rfl))) | ((first | refine awp_cond _ (by rfl) ?_ ?_ | ((first | apply ev_guardT | apply ev_guardF); (case hj | hb => (simp only [go_sem, H]; try rfl)))) <;> (first | refine ttA ?_ | refine ffA ?_ | (intro hb; first | (cases hb; done) | simp only [hb] | skip))) | ((first | apply awp_exit | apply awp_ret); refine tqA ?_) | (refine ev_nil (hK _ ?_); clear hK K) | (apply ev_step0; (case hr | hσ => (simp only [go_sem, H]; try rfl)); (case hc => exact hcA)) | (apply ev_step; (case hr | hσ => (intros; simp only [go_sem, H]; try rfl)); (case hc => exact hcA); intro g u; (try clear u); (try clear g)) | fail
      all_goals try clear H
      refine Exists.intro (k + 1, u) ⟨by show k + 1 ≤ _; omega, by show R.length - (k + 1) < R.length - k; omega, ?_⟩
      simp only [hs, List.map_append, List.map_cons, List.map_nil, bds3, bd, List.cons_append, List.nil_append, exA]
      exact wkA
    · as_aux_lemma =>
          have d2 : decide ((k : Int) < (R.length : Int)) = false := decide_eq_false (by omega)
          have hkl : k = R.length := by omega
          subst hkl
          rw [List.take_length]
          have hit : i < ts.length := by omega
          have hB0 := bds_at B (i := 0) (by omega)
          have hBi := bds_at B hlt
          have okc := cok i hit
          have lenc := ccol i
          have of1 := cat i hit
          have of2 := cis i hit
          have okb0 := cb _ (mem_at B zeroBd (i := 0) (by omega))
          have okbi := cb _ (mem_at B zeroBd hlt)
          generalize colM R i = col at *
          have ofc : ofM col = (B.getD i zeroBd, 0) := by rw [of1, ← of2]
          generalize B.getD 0 zeroBd = b0 at *
          generalize B.getD i zeroBd = bi at *
          have okcl : ∀ v ∈ col ++ l, VlOk v := fun v hv' => (List.mem_append.1 hv').elim (okc v) (hv v)
          have lencl : (col ++ l).length ≤ 16777216 := by rw [List.length_append]; omega
          have c1 := f12_spec col okc (by omega)
          rw [ofc] at c1
          have c2 := f12_spec (col ++ l) okcl lencl
          have c3 := f13_spec (col ++ l) okcl lencl
          have c4 := f14_spec b0 bi okb0 okbi
          have c5 := f15_spec b0 bi okb0 okbi
          have c6 := f14_spec z0 bi hz0 okbi
          have c7 := f15_spec z0 bi hz0 okbi
          simp only [vls, List.map_append] at c2 c3
          generalize ofM (col ++ l) = P at *
          generalize mergeM b0 bi = M1 at *
          generalize mergeM z0 bi = M2 at *
          have hflat : flatRows (l.map vlD) := flatRows_map (fun _ => rfl) l
          have w2 : IntKind.i64.wrap ((i : Int) + 1) = ((i + 1 : Nat) : Int) := by rw [wrap_id (by omega)]; push_cast; rfl
          have lcol : col.length ≤ 12 := by omega
          have llen : l.length ≤ 30 := by omega
          all_goals have H := And.intro d2 (And.intro hB0 (And.intro hBi w2))
          repeat' first | refine awp_seq ?_ | refine awp_block ?_ | refine awp_skip ?_ | (apply regB; (case hd => exact hdA); intro K hK) | (apply ev_guardU; (case hj | hu | hσ => (simp only [go_sem, H]; try rfl))) | ((first | refine awp_cond _ (by rfl) ?_ ?_ | ((first | apply ev_guardT | apply ev_guardF); (case hj | hb => (simp only [go_sem, H]; try rfl)))) <;> (first | refine ttA ?_ | refine ffA ?_ | (intro hb; first | (cases hb; done) | simp only [hb] | skip))) | ((first | apply awp_exit | apply awp_ret); refine tqA ?_) | (refine ev_nil (hK _ ?_); clear hK K) | (apply ev_call0; (case hys => (simp only [go_sem, H]; try rfl)); (case hs => first | exact c1 .. | exact c2 .. | exact c3 .. | exact c4 .. | exact c5 .. | exact c6 .. | exact c7 ..); (case hok | hσ => (simp only [go_sem, H]; try rfl))) | (apply regDB; (case hd => exact hdA); (case' h => (intro K hK; (repeat' first | (apply evd_nil; refine (hK _ ?_); clear hK K) | (apply evd_guardU0; (case hj | hu | hσ => (simp only [go_sem, H]; try rfl))) | (apply evd_guardU; (case hj | hu | hσ => (simp only [go_sem, H]; try rfl))) | (apply evd_skipT0; (case hj | hb | hσ => (simp only [go_sem, H]; try rfl))) | (apply evd_skipF0; (case hj | hb | hσ => (simp only [go_sem, H]; try rfl))) | (apply evd_skipT; (case hj | hb | hσ => (simp only [go_sem, H]; try rfl))) | (apply evd_skipF; (case hj | hb | hσ => (simp only [go_sem, H]; try rfl))) | (apply evd_guardT; (case hj | hb => (simp only [go_sem, H]; try rfl)); (case' h2 => (intro hb; first | (cases hb; done) | (simp only [hb]) | skip)); (case' h1 => (intro hb; first | (cases hb; done) | (simp only [hb]) | skip))) | (apply evd_guardF; (case hj | hb => (simp only [go_sem, H]; try rfl)); (case' h2 => (intro hb; first | (cases hb; done) | (simp only [hb]) | skip)); (case' h1 => (intro hb; first | (cases hb; done) | (simp only [hb]) | skip))) | (apply evd_call0; (case hi | hys => (simp only [go_sem, H]; try rfl)); (case hs => first | exact c1 .. | exact c2 .. | exact c3 .. | exact c4 .. | exact c5 .. | exact c6 .. | exact c7 ..); (case hok | hw | hσ => (simp only [go_sem, H]; try rfl))) | (apply evd_keep; (case hr | hi | hw | hσ => (intros; simp only [go_sem, H]; try rfl)); (case hc => (first | trivial | exact look_ok (by kernel_rfl) (by kernel_rfl) | decide | (simp only [inB, sliceOk, appendOk, rowsOk]; omega) | (simp [inB, sliceOk, appendOk, rowsOk]; omega) | ((simp only [go_sem, hflat]; omega)))); (case' hk => (intro g u; (try clear u); (try clear g)))) | (apply evd_step0; (case hr | hi | hσ => (simp only [go_sem, H]; try rfl)); (case hc => (first | trivial | exact look_ok (by kernel_rfl) (by kernel_rfl) | decide | (simp only [inB, sliceOk, appendOk, rowsOk]; omega) | (simp [inB, sliceOk, appendOk, rowsOk]; omega) | ((simp only [go_sem, hflat]; omega))))) | (apply evd_step; (case hr | hi | hw | hσ => (intros; simp only [go_sem, H]; try rfl)); (case hc => (first | trivial | exact look_ok (by kernel_rfl) (by kernel_rfl) | decide | (simp only [inB, sliceOk, appendOk, rowsOk]; omega) | (simp [inB, sliceOk, appendOk, rowsOk]; omega) | ((simp only [go_sem, hflat]; omega)))); (case' hk => (intro g u; (try clear u); (try clear g)))) | fail))); (case hB => kernel_rfl)) | (apply ev_step0; (case hr | hσ => (simp only [go_sem, H]; try rfl)); (case hc => (first | trivial | exact look_ok (by kernel_rfl) (by kernel_rfl) | decide | (simp only [inB, sliceOk, appendOk, rowsOk]; omega) | (simp [inB, sliceOk, appendOk, rowsOk]; omega) | ((simp only [go_sem, hflat]; omega))))) | (apply ev_step; (case hr | hσ => (intros; simp only [go_sem, H]; try rfl)); (case hc => (first | trivial | exact look_ok (by kernel_rfl) (by kernel_rfl) | decide | (simp only [inB, sliceOk, appendOk, rowsOk]; omega) | (simp [inB, sliceOk, appendOk, rowsOk]; omega) | ((simp only [go_sem, hflat]; omega)))); intro g u; (try clear u); (try clear g)) | fail
          all_goals try clear H
          refine Exists.intro (i + 1) ⟨by omega, by omega, ?_⟩
          try simp only [bds3, bd, List.cons_append, List.nil_append, exA]
          exact wkA
  have dA : decide ((i : Int) < (B.length : Int)) = false := decide_eq_false (by omega)
  clear hlt hi
  repeat' first | refine awp_seq ?_ | refine awp_block ?_ | refine awp_skip ?_ | (apply regB; (case hd => exact hdA); intro K hK) | (apply ev_guardU; (case hj | hu | hσ => (simp only [go_sem, dA]; try rfl))) | ((first | refine awp_cond _ (by rfl) ?_ ?_ | ((first | apply ev_guardT | apply ev_guardF); (case hj | hb => (simp only [go_sem, dA]; try rfl)))) <;> (first | refine ttA ?_ | refine ffA ?_ | (intro hb; first | (cases hb; done) | simp only [hb] | skip))) | ((first | apply awp_exit | apply awp_ret); refine tqA ?_) | (refine ev_nil (hK _ ?_); clear hK K) | (apply ev_step0; (case hr | hσ => (simp only [go_sem, dA]; try rfl)); (case hc => exact hcA)) | (apply ev_step; (case hr | hσ => (intros; simp only [go_sem, dA]; try rfl)); (case hc => exact hcA); intro g u; (try clear u); (try clear g)) | fail
  as_aux_lemma =>
    refine awp_loopI (fun i : Nat => i ≤ 3) (fun i => 3 - i) (fun i => ⟨[.d (vls l), .any, .any, .any, .ptr 4 g4 0, .ptr 5 g5 0, litB false, litB true, .d (tys ts), .ptr 9 g9 0, .d (rowsD R), .d (bds B), .any, .any, .any, litI .i64 (i : Int), .any, .any, .any, .any, .any, .any, .any, .any, .any, .any, .any, .any, .any, .any, .any, .any, .any, .any, .any, .any, .any, .any, .any, .any, .any, .any, .any, .any, .any, .any, .any, .any, .any, .any, .any, .any, .any, .any, .any, .any, .any, .any, .any, .any, .any, .any, .any, .any, .any, .any, .any, .any, .any, .any, .any, .any, .any, .any, .any, .any, .any, .any, .any, .any, .any, .any, .any, .any, .any, .any, .any, .any, .any, .any, .any, .any, .any, .any, .any, .any, .any, .any, .any, .any, .any, .any, .any, .any, .any, .any, .any, .any, .any, .any, .any, .any, .any, .any, .any, .any, .any, .any, .any, .any, .any, .any, .any, .any, .any, .any, .any, .any, .any, .any, .any, .any, .any, .any, .any, .any, .any, .any, .any, .any, .any, .any, .any, .any, .any, .any, .any, .any, .any, .any, .any, .any, .any, .any, .any, .any, .any, .any, .any, .any, .any, .any, .any, .any, .any, .any, .any, .any, .any, .any, .any, .any, .any, .any, .any, .any, .any, .any, .any, .any, .any, .any, .any, .any, .any, .any, .any, .any, .any, .any, .any, .any, .any, .any, .any, .any, .any, .any, .any, .any, .any, .any, .any, .any, .any, .any, .any, .any, .any, .any, .any, .any, .any, .any, .any, .any, .any, .any, .any, .any, .any, .any, .any, .any, .any, .any, .any, .any, .any, .any, .any, .any, .any, .any, .any, .any, .any, .any, .any, .any, .any, .any, .any, .any, .any, .any, .any, .any, .any, .any, .any, .any, .any, .any, .any, .any, .any, .any, .any, .any, .any, .any, .any, .any, .any, .any], [.no, .no, .no, .no, .no, .box g5 (bds3 z0 z1 z2), .no, .no, .no, .box g9 (exA e), .no, .no, .no, .no, .no, .no, .no, .no, .no, .no, .no, .no, .no, .no, .no, .no, .no, .no, .no, .no, .no, .no, .no, .no, .no, .no, .no, .no, .no, .no, .no, .no, .no, .no, .no, .no, .no, .no, .no, .no, .no, .no, .no, .no, .no, .no, .no, .no, .no, .no, .no, .no, .no, .no, .no, .no, .no, .no, .no, .no, .no, .no, .no, .no, .no, .no, .no, .no, .no, .no, .no, .no, .no, .no, .no, .no, .no, .no, .no, .no, .no, .no, .no, .no, .no, .no, .no, .no, .no, .no, .no, .no, .no, .no, .no, .no, .no, .no, .no, .no, .no, .no, .no, .no, .no, .no, .no, .no, .no, .no, .no, .no, .no, .no, .no, .no, .no, .no, .no, .no, .no, .no, .no, .no, .no, .no, .no, .no, .no, .no, .no, .no, .no, .no, .no, .no, .no, .no, .no, .no, .no, .no, .no, .no, .no, .no, .no, .no, .no, .no, .no, .no, .no, .no, .no, .no, .no, .no, .no, .no, .no, .no, .no, .no, .no, .no, .no, .no, .no, .no, .no, .no, .no, .no, .no, .no, .no, .no, .no, .no, .no, .no, .no, .no, .no, .no, .no, .no, .no, .no, .no, .no, .no, .no, .no, .no, .no, .no, .no, .no, .no, .no, .no, .no, .no, .no, .no, .no, .no, .no, .no, .no, .no, .no, .no, .no, .no, .no, .no, .no, .no, .no, .no, .no, .no, .no, .no, .no, .no, .no, .no, .no, .no, .no, .no, .no, .no, .no, .no, .no, .no, .no, .no, .no, .no, .no, .no, .no, .no, .no, .no, .no, .no, .no, .no, .no]⟩) 0 (by omega) ?_ ?_
    · simp only [bds3, bd, List.cons_append, List.nil_append, exA]
      exact wkA
    intro i hi
    simp only [litI, litB, litS] at hi ⊢
    simp only [bds3, bd, List.cons_append, List.nil_append, exA]
    obtain ⟨n, hn⟩ : ∃ n, n = i + 1 := ⟨_, rfl⟩
    have zz : i < 3 → ∃ z, BdOk z ∧ (i = 0 ∧ z0 = z ∨ i = 1 ∧ z1 = z ∨ i = 2 ∧ z2 = z) := fun h => by
      obtain rfl | rfl | rfl : i = 0 ∨ i = 1 ∨ i = 2 := by omega
      · exact ⟨z0, hz0, .inl ⟨rfl, rfl⟩⟩
      · exact ⟨z1, hz1, .inr (.inl ⟨rfl, rfl⟩)⟩
      · exact ⟨z2, hz2, .inr (.inr ⟨rfl, rfl⟩)⟩
    by_cases h3 : i < 3
    · obtain ⟨z, hz, hzz⟩ := zz h3
      have d1 : decide ((i : Int) < 3) = true := decide_eq_true (by omega)
      have w1 : IntKind.i64.wrap ((i : Int) + 1) = (n : Int) := by rw [wrap_id (by omega)]; omega
      have v1 := f16_spec z hz.lo.s hz.hi.s
      have v2 := f17_spec z hz.lo hz.hi
      have m1 := f14_spec z0 z hz0 hz
      have m2 := f15_spec z0 z hz0 hz
      generalize validB z = vb at *
      generalize mergeM z0 z = mm at *
      have s1 := fun v (h : VlOk v) => f18_spec z v hz h.s
      have s2 := fun v (h : VlOk v) => f19_spec z v hz h
      obtain ⟨S, hS⟩ : ∃ S : Nat → St, S = fun j => ⟨[.d (vls l), .any, .any, .any, .ptr 4 g4 0, .ptr 5 g5 0, litB false, litB true, .d (tys ts), .ptr 9 g9 0, .d (rowsD R), .d (bds B), .any, .any, .any, litI .i64 (i : Int), litI .i64 (j : Int), .any, .any, .any, .any, .any, .any, .any, .any, .any, .any, .any, .any, .any, .any, .any, .any, .any, .any, .any, .any, .any, .any, .any, .any, .any, .any, .any, .any, .any, .any, .any, .any, .any, .any, .any, .any, .any, .any, .any, .any, .any, .any, .any, .any, .any, .any, .any, .any, .any, .any, .any, .any, .any, .any, .any, .any, .any, .any, .any, .any, .any, .any, .any, .any, .any, .any, .any, .any, .any, .any, .any, .any, .any, .any, .any, .any, .any, .any, .any, .any, .any, .any, .any, .any, .any, .any, .any, .any, .any, .any, .any, .any, .any, .any, .any, .any, .any, .any, .any, .any, .any, .any, .any, .any, .any, .any, .any, .any, .any, .any, .any, .any, .any, .any, .any, .any, .any, .any, .any, .any, .any, .any, .any, .any, .any, .any, .any, .any, .any, .any, .any, .any, .any, .any, .any, .any, .any, .any, .any, .any, .any, .any, .any, .any, .any, .any, .any, .any, .any, .any, .any, .any, .any, .any, .any, .any, .any, .any, .any, .any, .any, .any, .any, .any, .any, .any, .any, .any, .any, .any, .any, .any, .any, .any, .any, .any, .any, .any, .any, .any, .any, .any, .any, .any, .any, .any, .any, .any, .any, .any, .any, .any, .any, .any, .any, .any, .any, .any, .any, .any, .any, .any, .any, .any, .any, .any, .any, .any, .any, .any, .any, .any, .any, .any, .any, .any, .any, .any, .any, .any, .any, .any, .any, .any, .any, .any, .any, .any, .any, .any, .any, .any, .any, .any, .any, .any, .any, .any, .any, .any, .any, .any, .any, .any, .any, .any, .any, .any, .any], [.no, .no, .no, .no, .no, .box g5 (bds3 z0 z1 z2), .no, .no, .no, .box g9 (exA e), .no, .no, .no, .no, .no, .no, .no, .no, .no, .no, .no, .no, .no, .no, .no, .no, .no, .no, .no, .no, .no, .no, .no, .no, .no, .no, .no, .no, .no, .no, .no, .no, .no, .no, .no, .no, .no, .no, .no, .no, .no, .no, .no, .no, .no, .no, .no, .no, .no, .no, .no, .no, .no, .no, .no, .no, .no, .no, .no, .no, .no, .no, .no, .no, .no, .no, .no, .no, .no, .no, .no, .no, .no, .no, .no, .no, .no, .no, .no, .no, .no, .no, .no, .no, .no, .no, .no, .no, .no, .no, .no, .no, .no, .no, .no, .no, .no, .no, .no, .no, .no, .no, .no, .no, .no, .no, .no, .no, .no, .no, .no, .no, .no, .no, .no, .no, .no, .no, .no, .no, .no, .no, .no, .no, .no, .no, .no, .no, .no, .no, .no, .no, .no, .no, .no, .no, .no, .no, .no, .no, .no, .no, .no, .no, .no, .no, .no, .no, .no, .no, .no, .no, .no, .no, .no, .no, .no, .no, .no, .no, .no, .no, .no, .no, .no, .no, .no, .no, .no, .no, .no, .no, .no, .no, .no, .no, .no, .no, .no, .no, .no, .no, .no, .no, .no, .no, .no, .no, .no, .no, .no, .no, .no, .no, .no, .no, .no, .no, .no, .no, .no, .no, .no, .no, .no, .no, .no, .no, .no, .no, .no, .no, .no, .no, .no, .no, .no, .no, .no, .no, .no, .no, .no, .no, .no, .no, .no, .no, .no, .no, .no, .no, .no, .no, .no, .no, .no, .no, .no, .no, .no, .no, .no, .no, .no, .no, .no, .no, .no, .no, .no, .no, .no, .no, .no, .no]⟩ := ⟨_, rfl⟩
      obtain ⟨rfl, rfl⟩ | ⟨rfl, rfl⟩ | ⟨rfl, rfl⟩ := hzz
      all_goals
        as_aux_lemma =>
          all_goals have H := And.intro d1 w1
          repeat' first | refine awp_seq ?_ | refine awp_block ?_ | refine awp_skip ?_ | (apply regB; (case hd => exact hdA); intro K hK) | (apply ev_guardU; (case hj | hu | hσ => (simp only [go_sem, H]; try rfl))) | ((first | refine awp_cond _ (by rfl) ?_ ?_ | ((first | apply ev_guardT | apply ev_guardF); (case hj | hb => (simp only [go_sem, H]; try rfl)))) <;> (first | refine ttA ?_ | refine ffA ?_ | (intro hb; first | (cases hb; done) | simp only [hb] | skip))) | ((first | apply awp_exit | apply awp_ret); refine tqA ?_) | (refine ev_nil (hK _ ?_); clear hK K) | (apply ev_call0; (case hys => (simp only [go_sem, H]; try rfl)); (case hs => first | exact v1 .. | exact v2 .. | exact m1 .. | exact m2 ..); (case hok | hσ => (simp only [go_sem, H]; try rfl))) | (apply regDB; (case hd => exact hdA); (case' h => (intro K hK; (repeat' first | (apply evd_nil; refine (hK _ ?_); clear hK K) | (apply evd_guardU0; (case hj | hu | hσ => (simp only [go_sem, H]; try rfl))) | (apply evd_guardU; (case hj | hu | hσ => (simp only [go_sem, H]; try rfl))) | (apply evd_skipT0; (case hj | hb | hσ => (simp only [go_sem, H]; try rfl))) | (apply evd_skipF0; (case hj | hb | hσ => (simp only [go_sem, H]; try rfl))) | (apply evd_skipT; (case hj | hb | hσ => (simp only [go_sem, H]; try rfl))) | (apply evd_skipF; (case hj | hb | hσ => (simp only [go_sem, H]; try rfl))) | (apply evd_guardT; (case hj | hb => (simp only [go_sem, H]; try rfl)); (case' h2 => (intro hb; first | (cases hb; done) | (simp only [hb]) | skip)); (case' h1 => (intro hb; first | (cases hb; done) | (simp only [hb]) | skip))) | (apply evd_guardF; (case hj | hb => (simp only [go_sem, H]; try rfl)); (case' h2 => (intro hb; first | (cases hb; done) | (simp only [hb]) | skip)); (case' h1 => (intro hb; first | (cases hb; done) | (simp only [hb]) | skip))) | (apply evd_call0; (case hi | hys => (simp only [go_sem, H]; try rfl)); (case hs => first | exact v1 .. | exact v2 .. | exact m1 .. | exact m2 ..); (case hok | hw | hσ => (simp only [go_sem, H]; try rfl))) | (apply evd_step0; (case hr | hi | hσ => (simp only [go_sem, H]; try rfl)); (case hc => exact hcA)) | (apply evd_step; (case hr | hi | hw | hσ => (intros; simp only [go_sem, H]; try rfl)); (case hc => exact hcA); (case' hk => (intro g u; (try clear u); (try clear g)))) | fail))); (case hB => kernel_rfl)) | (apply ev_step0; (case hr | hσ => (simp only [go_sem, H]; try rfl)); (case hc => exact hcA)) | (apply ev_step; (case hr | hσ => (intros; simp only [go_sem, H]; try rfl)); (case hc => exact hcA); intro g u; (try clear u); (try clear g)) | fail
          all_goals try clear H
          refine awp_loopI (fun j : Nat => j ≤ l.length) (fun j => l.length - j) S 0 (by omega) ?_ ?_
          · simp only [hS, bds3, bd, List.cons_append, List.nil_append, exA]
            exact wkA
          intro j hj
          simp only [hS, litI, litB, litS] at hj ⊢
          simp only [bds3, bd, List.cons_append, List.nil_append, exA]
          by_cases hjl : j < l.length
          · have d2 : decide ((j : Int) < (l.length : Int)) = true := decide_eq_true (by omega)
            have hx := vls_at l hjl
            have hm := hv _ (mem_at l dV hjl)
            generalize l.getD j dV = v at *
            have s1 := s1 v hm
            have s2 := s2 v hm
            generalize containsB _ v = cc at *
            have w2 : IntKind.i64.wrap ((j : Int) + 1) = ((j + 1 : Nat) : Int) := by rw [wrap_id (by omega)]; push_cast; rfl
            all_goals have H := And.intro d2 (And.intro hx w2)
            repeat' first | refine awp_seq ?_ | refine awp_block ?_ | refine awp_skip ?_ | (apply regB; (case hd => exact hdA); intro K hK) | (apply ev_guardU; (case hj | hu | hσ => (simp only [go_sem, H]; try rfl))) | ((first | refine awp_cond _ (by rfl) ?_ ?_ | ((first | apply ev_guardT | apply ev_guardF); (case hj | hb => (simp only [go_sem, H]; try rfl)))) <;> (first | refine ttA ?_ | refine ffA ?_ | (intro hb; first | (cases hb; done) | simp only [hb] | skip))) | ((first | apply awp_exit | apply awp_ret); refine tqA ?_) | (refine ev_nil (hK _ ?_); clear hK K) | (apply ev_call0; (case hys => (simp only [go_sem, H]; try rfl)); (case hs => first | exact s1 .. | exact s2 ..); (case hok | hσ => (simp only [go_sem, H]; try rfl))) | (apply regDB; (case hd => exact hdA); (case' h => (intro K hK; (repeat' first | (apply evd_nil; refine (hK _ ?_); clear hK K) | (apply evd_guardU0; (case hj | hu | hσ => (simp only [go_sem, H]; try rfl))) | (apply evd_guardU; (case hj | hu | hσ => (simp only [go_sem, H]; try rfl))) | (apply evd_skipT0; (case hj | hb | hσ => (simp only [go_sem, H]; try rfl))) | (apply evd_skipF0; (case hj | hb | hσ => (simp only [go_sem, H]; try rfl))) | (apply evd_skipT; (case hj | hb | hσ => (simp only [go_sem, H]; try rfl))) | (apply evd_skipF; (case hj | hb | hσ => (simp only [go_sem, H]; try rfl))) | (apply evd_guardT; (case hj | hb => (simp only [go_sem, H]; try rfl)); (case' h2 => (intro hb; first | (cases hb; done) | (simp only [hb]) | skip)); (case' h1 => (intro hb; first | (cases hb; done) | (simp only [hb]) | skip))) | (apply evd_guardF; (case hj | hb => (simp only [go_sem, H]; try rfl)); (case' h2 => (intro hb; first | (cases hb; done) | (simp only [hb]) | skip)); (case' h1 => (intro hb; first | (cases hb; done) | (simp only [hb]) | skip))) | (apply evd_call0; (case hi | hys => (simp only [go_sem, H]; try rfl)); (case hs => first | exact s1 .. | exact s2 ..); (case hok | hw | hσ => (simp only [go_sem, H]; try rfl))) | (apply evd_step0; (case hr | hi | hσ => (simp only [go_sem, H]; try rfl)); (case hc => exact hcA)) | (apply evd_step; (case hr | hi | hw | hσ => (intros; simp only [go_sem, H]; try rfl)); (case hc => exact hcA); (case' hk => (intro g u; (try clear u); (try clear g)))) | fail))); (case hB => kernel_rfl)) | (apply ev_step0; (case hr | hσ => (simp only [go_sem, H]; try rfl)); (case hc => exact hcA)) | (apply ev_step; (case hr | hσ => (intros; simp only [go_sem, H]; try rfl)); (case hc => exact hcA); intro g u; (try clear u); (try clear g)) | fail
            all_goals try clear H
            refine Exists.intro (j + 1) ⟨by omega, by omega, ?_⟩
            try simp only [bds3, bd, List.cons_append, List.nil_append, exA]
            exact wkA
          have d2 : decide ((j : Int) < (l.length : Int)) = false := decide_eq_false (by omega)
          all_goals have H := And.intro d2 w1
          repeat' first | refine awp_seq ?_ | refine awp_block ?_ | refine awp_skip ?_ | (apply regB; (case hd => exact hdA); intro K hK) | (apply ev_guardU; (case hj | hu | hσ => (simp only [go_sem, H]; try rfl))) | ((first | refine awp_cond _ (by rfl) ?_ ?_ | ((first | apply ev_guardT | apply ev_guardF); (case hj | hb => (simp only [go_sem, H]; try rfl)))) <;> (first | refine ttA ?_ | refine ffA ?_ | (intro hb; first | (cases hb; done) | simp only [hb] | skip))) | ((first | apply awp_exit | apply awp_ret); refine tqA ?_) | (refine ev_nil (hK _ ?_); clear hK K) | (apply ev_step0; (case hr | hσ => (simp only [go_sem, H]; try rfl)); (case hc => exact hcA)) | (apply ev_step; (case hr | hσ => (intros; simp only [go_sem, H]; try rfl)); (case hc => exact hcA); intro g u; (try clear u); (try clear g)) | fail
          all_goals try clear H
          refine Exists.intro n ⟨by omega, by omega, ?_⟩
          try simp only [bds3, bd, List.cons_append, List.nil_append, exA]
          exact wkA
    have hi3 : i = 3 := by omega
    subst hi3
    have d3 : decide (((3 : Nat) : Int) < 3) = false := by decide
    repeat' first | refine awp_seq ?_ | refine awp_block ?_ | refine awp_skip ?_ | (apply regB; (case hd => exact hdA); intro K hK) | (apply ev_guardU; (case hj | hu | hσ => (simp only [go_sem, d3]; try rfl))) | ((first | refine awp_cond _ (by rfl) ?_ ?_ | ((first | apply ev_guardT | apply ev_guardF); (case hj | hb => (simp only [go_sem, d3]; try rfl)))) <;> (first | refine ttA ?_ | refine ffA ?_ | (intro hb; first | (cases hb; done) | simp only [hb] | skip))) | ((first | apply awp_exit | apply awp_ret); refine tqA ?_) | (refine ev_nil (hK _ ?_); clear hK K) | (apply ev_step0; (case hr | hσ => (simp only [go_sem, d3]; try rfl)); (case hc => exact hcA)) | (apply ev_step; (case hr | hσ => (intros; simp only [go_sem, d3]; try rfl)); (case hc => exact hcA); intro g u; (try clear u); (try clear g)) | fail
    clear zz
    as_aux_lemma =>
      refine awp_loopI (fun j : Nat × (List Bd × Value) => j.1 ≤ 3 ∧ j.1 ≤ j.2.1.length ∧ j.2.1.length = ts.length ∧ ∀ b ∈ j.2.1, BdOk b) (fun j => 3 - j.1) (fun j => ⟨[.d (vls l), .any, .any, .any, .ptr 4 g4 0, .ptr 5 g5 0, litB false, litB true, .d (tys ts), .ptr 9 g9 0, .d (rowsD R), .d (bds B), .any, .any, .any, .any, .any, .own 197 j.2.2, litI .i64 (j.1 : Int), .any, .any, .any, .any, .any, .any, .any, .any, .any, .any, .any, .any, .any, .any, .any, .any, .any, .any, .any, .any, .any, .any, .any, .any, .any, .any, .any, .any, .any, .any, .any, .any, .any, .any, .any, .any, .any, .any, .any, .any, .any, .any, .any, .any, .any, .any, .any, .any, .any, .any, .any, .any, .any, .any, .any, .any, .any, .any, .any, .any, .any, .any, .any, .any, .any, .any, .any, .any, .any, .any, .any, .any, .any, .any, .any, .any, .any, .any, .any, .any, .any, .any, .any, .any, .any, .any, .any, .any, .any, .any, .any, .any, .any, .any, .any, .any, .any, .any, .any, .any, .any, .any, .any, .any, .any, .any, .any, .any, .any, .any, .any, .any, .any, .any, .any, .any, .any, .any, .any, .any, .any, .any, .any, .any, .any, .any, .any, .any, .any, .any, .any, .any, .any, .any, .any, .any, .any, .any, .any, .any, .any, .any, .any, .any, .any, .any, .any, .any, .any, .any, .any, .any, .any, .any, .any, .any, .any, .any, .any, .any, .any, .any, .any, .any, .any, .any, .any, .any, .any, .any, .any, .any, .any, .any, .any, .any, .any, .any, .any, .any, .any, .any, .any, .any, .any, .any, .any, .any, .any, .any, .any, .any, .any, .any, .any, .any, .any, .any, .any, .any, .any, .any, .any, .any, .any, .any, .any, .any, .any, .any, .any, .any, .any, .any, .any, .any, .any, .any, .any, .any, .any, .any, .any, .any, .any, .any, .any, .any, .any, .any, .any, .any, .any, .any, .any, .any, .any, .any, .any, .any, .any, .any, .any, .any, .any, .any, .any], [.no, .no, .no, .no, .no, .box g5 (bds3 z0 z1 z2), .no, .no, .no, .box g9 (exA e), .no, .no, .no, .no, .no, .no, .no, .no, .no, .no, .no, .no, .no, .no, .no, .no, .no, .no, .no, .no, .no, .no, .no, .no, .no, .no, .no, .no, .no, .no, .no, .no, .no, .no, .no, .no, .no, .no, .no, .no, .no, .no, .no, .no, .no, .no, .no, .no, .no, .no, .no, .no, .no, .no, .no, .no, .no, .no, .no, .no, .no, .no, .no, .no, .no, .no, .no, .no, .no, .no, .no, .no, .no, .no, .no, .no, .no, .no, .no, .no, .no, .no, .no, .no, .no, .no, .no, .no, .no, .no, .no, .no, .no, .no, .no, .no, .no, .no, .no, .no, .no, .no, .no, .no, .no, .no, .no, .no, .no, .no, .no, .no, .no, .no, .no, .no, .no, .no, .no, .no, .no, .no, .no, .no, .no, .no, .no, .no, .no, .no, .no, .no, .no, .no, .no, .no, .no, .no, .no, .no, .no, .no, .no, .no, .no, .no, .no, .no, .no, .no, .no, .no, .no, .no, .no, .no, .no, .no, .no, .no, .no, .no, .no, .no, .no, .no, .no, .no, .no, .no, .no, .no, .no, .no, .no, .no, .no, .no, .no, .no, .no, .no, .no, .no, .no, .no, .no, .row j.2.2 28 9 (j.2.1.map bdD), .no, .no, .no, .no, .no, .no, .no, .no, .no, .no, .no, .no, .no, .no, .no, .no, .no, .no, .no, .no, .no, .no, .no, .no, .no, .no, .no, .no, .no, .no, .no, .no, .no, .no, .no, .no, .no, .no, .no, .no, .no, .no, .no, .no, .no, .no, .no, .no, .no, .no, .no, .no, .no, .no, .no, .no, .no, .no, .no, .no, .no, .no, .no, .no, .no, .no, .no, .no]⟩) (0, (B, u)) ⟨by simp, by simp, clen, cb⟩ ?_ ?_
      · simp only [bds3, bd, List.cons_append, List.nil_append, exA]
        exact wkA
      rintro ⟨i, O, u1⟩ ⟨hi, hi2, hO1, hO2⟩
      simp only [litI, litB, litS] at hi hi2 hO1 hO2 ⊢
      simp only [bds3, bd, List.cons_append, List.nil_append, exA]
      by_cases hlt : i < O.length ∧ i < 3
      · obtain ⟨z, hz, hzz⟩ : ∃ z, BdOk z ∧ (i = 0 ∧ z0 = z ∨ i = 1 ∧ z1 = z ∨ i = 2 ∧ z2 = z) := by
          obtain rfl | rfl | rfl : i = 0 ∨ i = 1 ∨ i = 2 := by omega
          · exact ⟨z0, hz0, .inl ⟨rfl, rfl⟩⟩
          · exact ⟨z1, hz1, .inr (.inl ⟨rfl, rfl⟩)⟩
          · exact ⟨z2, hz2, .inr (.inr ⟨rfl, rfl⟩)⟩
        have d1 : decide ((i : Int) < (O.length : Int)) = true := decide_eq_true (by omega)
        have d2 : decide ((i : Int) < 3) = true := decide_eq_true (by omega)
        obtain ⟨n, hn⟩ : ∃ n, n = i + 1 := ⟨_, rfl⟩
        have w1 : IntKind.i64.wrap ((i : Int) + 1) = (n : Int) := by rw [wrap_id (by omega)]; omega
        have hl1 : i < O.length := hlt.1
        have hxO := bds_at O hl1
        obtain ⟨X, hX⟩ : ∃ X, X = O.set i z := ⟨_, rfl⟩
        have hX1 : X.length = O.length := by rw [hX, List.length_set]
        have hX2 : ∀ b ∈ X, BdOk b := fun b hb => by
          rw [hX] at hb
          rcases List.mem_or_eq_of_mem_set hb with hb | rfl
          · exact hO2 b hb
          · exact hz
        obtain ⟨rfl, rfl⟩ | ⟨rfl, rfl⟩ | ⟨rfl, rfl⟩ := hzz
        all_goals
          as_aux_lemma =>
            all_goals have H := And.intro d1 (And.intro d2 (And.intro w1 hxO))
            repeat' first | refine awp_seq ?_ | refine awp_block ?_ | refine awp_skip ?_ | (apply regB; (case hd => exact hdA); intro K hK) | (apply ev_guardU; (case hj | hu | hσ => (simp only [go_sem, H]; try rfl))) | ((first | refine awp_cond _ (by rfl) ?_ ?_ | ((first | apply ev_guardT | apply ev_guardF); (case hj | hb => (simp only [go_sem, H]; try rfl)))) <;> (first | refine ttA ?_ | refine ffA ?_ | (intro hb; first | (cases hb; done) | simp only [hb] | skip))) | ((first | apply awp_exit | apply awp_ret); refine tqA ?_) | (refine ev_nil (hK _ ?_); clear hK K) | (apply ev_step0; (case hr | hσ => (simp only [go_sem, H]; try rfl)); (case hc => exact hcA)) | (apply ev_step; (case hr | hσ => (intros; simp only [go_sem, H]; try rfl)); (case hc => exact hcA); intro g u; (try clear u); (try clear g)) | fail
            all_goals try clear H
            refine Exists.intro (n, (X, u1)) ⟨⟨by show n ≤ 3; omega, by show n ≤ X.length; omega, hX1.trans hO1, hX2⟩, by show 3 - n < 3 - _; omega, ?_⟩
            simp only [hX, List.map_set, bds3, bd, List.cons_append, List.nil_append, exA]
            exact wkA
      have dd : (decide ((i : Int) < (O.length : Int)) = false) ∨ (decide ((i : Int) < (O.length : Int)) = true ∧ decide ((i : Int) < 3) = false) := by
        by_cases h1 : i < O.length
        · exact .inr ⟨decide_eq_true (by omega), decide_eq_false (by omega)⟩
        · exact .inl (decide_eq_false (by omega))
      have tl : (ts.length : Int) ≤ 6 := by omega
      apply two dd
      case h1 =>
        intro d1 hG
        repeat' first | ((fail_if_success show AWp _ (Code.seq (Code.region 35 _ _) _) _ _); refine awp_seq ?_) | refine awp_block ?_ | refine awp_skip ?_ | (apply regB; (case hd => exact hdA); intro K hK) | (apply ev_guardU; (case hj | hu | hσ => (simp only [go_sem, d1]; try rfl))) | ((first | refine awp_cond _ (by rfl) ?_ ?_ | ((first | apply ev_guardT | apply ev_guardF); (case hj | hb => (simp only [go_sem, d1]; try rfl)))) <;> (first | refine ttA ?_ | refine ffA ?_ | (intro hb; first | (cases hb; done) | simp only [hb] | skip))) | ((first | apply awp_exit | apply awp_ret); refine tqA ?_) | (refine ev_nil (hK _ ?_); clear hK K) | (apply ev_step0; (case hr | hσ => (simp only [go_sem, d1]; try rfl)); (case hc => exact hcA)) | (apply ev_step; (case hr | hσ => (intros; simp only [go_sem, d1]; try rfl)); (case hc => exact hcA); intro g u; (try clear u); (try clear g)) | fail
        refine awp_wk (σ' := ⟨[.any, .any, .any, .any, .any, .any, litB false, litB true, .d (tys ts), .ptr 9 g9 0, .any, .d (bds B), .any, .any, .any, .any, .any, .own 197 u1, .any, .any, .any, .any, .any, .any, .any, .any, .any, .any, .any, .any, .any, .any, .any, .any, .any, .any, .any, .any, .any, .any, .any, .any, .any, .any, .any, .any, .any, .any, .any, .any, .any, .any, .any, .any, .any, .any, .any, .any, .any, .any, .any, .any, .any, .any, .any, .any, .any, .any, .any, .any, .any, .any, .any, .any, .any, .any, .any, .any, .any, .any, .any, .any, .any, .any, .any, .any, .any, .any, .any, .any, .any, .any, .any, .any, .any, .any, .any, .any, .any, .any, .any, .any, .any, .any, .any, .any, .any, .any, .any, .any, .any, .any, .any, .any, .any, .any, .any, .any, .any, .any, .any, .any, .any, .any, .any, .any, .any, .any, .any, .any, .any, .any, .any, .any, .any, .any, .any, .any, .any, .any, .any, .any, .any, .any, .any, .any, .any, .any, .any, .any, .any, .any, .any, .any, .any, .any, .any, .any, .any, .any, .any, .any, .any, .any, .any, .any, .any, .any, .any, .any, .any, .any, .any, .any, .any, .any, .any, .any, .any, .any, .any, .any, .any, .any, .any, .any, .any, .any, .any, .any, .any, .any, .any, .any, .any, .any, .any, .any, .any, .any, .any, .any, .any, .any, .any, .any, .any, .any, .any, .any, .any, .any, .any, .any, .any, .any, .any, .any, .any, .any, .any, .any, .any, .any, .any, .any, .any, .any, .any, .any, .any, .any, .any, .any, .any, .any, .any, .any, .any, .any, .any, .any, .any, .any, .any, .any, .any, .any, .any, .any, .any, .any, .any, .any, .any, .any, .any, .any, .any, .any, .any, .any, .any, .any, .any, .any], [.no, .no, .no, .no, .no, .no, .no, .no, .no, .box g9 (exA e), .no, .no, .no, .no, .no, .no, .no, .no, .no, .no, .no, .no, .no, .no, .no, .no, .no, .no, .no, .no, .no, .no, .no, .no, .no, .no, .no, .no, .no, .no, .no, .no, .no, .no, .no, .no, .no, .no, .no, .no, .no, .no, .no, .no, .no, .no, .no, .no, .no, .no, .no, .no, .no, .no, .no, .no, .no, .no, .no, .no, .no, .no, .no, .no, .no, .no, .no, .no, .no, .no, .no, .no, .no, .no, .no, .no, .no, .no, .no, .no, .no, .no, .no, .no, .no, .no, .no, .no, .no, .no, .no, .no, .no, .no, .no, .no, .no, .no, .no, .no, .no, .no, .no, .no, .no, .no, .no, .no, .no, .no, .no, .no, .no, .no, .no, .no, .no, .no, .no, .no, .no, .no, .no, .no, .no, .no, .no, .no, .no, .no, .no, .no, .no, .no, .no, .no, .no, .no, .no, .no, .no, .no, .no, .no, .no, .no, .no, .no, .no, .no, .no, .no, .no, .no, .no, .no, .no, .no, .no, .no, .no, .no, .no, .no, .no, .no, .no, .no, .no, .no, .no, .no, .no, .no, .no, .no, .no, .no, .no, .no, .no, .no, .no, .no, .no, .no, .no, .row u1 28 9 (O.map bdD), .no, .no, .no, .no, .no, .no, .no, .no, .no, .no, .no, .no, .no, .no, .no, .no, .no, .no, .no, .no, .no, .no, .no, .no, .no, .no, .no, .no, .no, .no, .no, .no, .no, .no, .no, .no, .no, .no, .no, .no, .no, .no, .no, .no, .no, .no, .no, .no, .no, .no, .no, .no, .no, .no, .no, .no, .no, .no, .no, .no, .no, .no, .no, .no, .no, .no, .no, .no]⟩) ?_ ?_
        · simp only [exA]
          exact wkA
        · exact hG
      case h2 =>
        rintro ⟨d1, d2⟩ hG
        all_goals have H := And.intro d1 d2
        repeat' first | ((fail_if_success show AWp _ (Code.seq (Code.region 35 _ _) _) _ _); refine awp_seq ?_) | refine awp_block ?_ | refine awp_skip ?_ | (apply regB; (case hd => exact hdA); intro K hK) | (apply ev_guardU; (case hj | hu | hσ => (simp only [go_sem, H]; try rfl))) | ((first | refine awp_cond _ (by rfl) ?_ ?_ | ((first | apply ev_guardT | apply ev_guardF); (case hj | hb => (simp only [go_sem, H]; try rfl)))) <;> (first | refine ttA ?_ | refine ffA ?_ | (intro hb; first | (cases hb; done) | simp only [hb] | skip))) | ((first | apply awp_exit | apply awp_ret); refine tqA ?_) | (refine ev_nil (hK _ ?_); clear hK K) | (apply ev_step0; (case hr | hσ => (simp only [go_sem, H]; try rfl)); (case hc => exact hcA)) | (apply ev_step; (case hr | hσ => (intros; simp only [go_sem, H]; try rfl)); (case hc => exact hcA); intro g u; (try clear u); (try clear g)) | fail
        all_goals try clear H
        refine awp_wk (σ' := ⟨[.any, .any, .any, .any, .any, .any, litB false, litB true, .d (tys ts), .ptr 9 g9 0, .any, .d (bds B), .any, .any, .any, .any, .any, .own 197 u1, .any, .any, .any, .any, .any, .any, .any, .any, .any, .any, .any, .any, .any, .any, .any, .any, .any, .any, .any, .any, .any, .any, .any, .any, .any, .any, .any, .any, .any, .any, .any, .any, .any, .any, .any, .any, .any, .any, .any, .any, .any, .any, .any, .any, .any, .any, .any, .any, .any, .any, .any, .any, .any, .any, .any, .any, .any, .any, .any, .any, .any, .any, .any, .any, .any, .any, .any, .any, .any, .any, .any, .any, .any, .any, .any, .any, .any, .any, .any, .any, .any, .any, .any, .any, .any, .any, .any, .any, .any, .any, .any, .any, .any, .any, .any, .any, .any, .any, .any, .any, .any, .any, .any, .any, .any, .any, .any, .any, .any, .any, .any, .any, .any, .any, .any, .any, .any, .any, .any, .any, .any, .any, .any, .any, .any, .any, .any, .any, .any, .any, .any, .any, .any, .any, .any, .any, .any, .any, .any, .any, .any, .any, .any, .any, .any, .any, .any, .any, .any, .any, .any, .any, .any, .any, .any, .any, .any, .any, .any, .any, .any, .any, .any, .any, .any, .any, .any, .any, .any, .any, .any, .any, .any, .any, .any, .any, .any, .any, .any, .any, .any, .any, .any, .any, .any, .any, .any, .any, .any, .any, .any, .any, .any, .any, .any, .any, .any, .any, .any, .any, .any, .any, .any, .any, .any, .any, .any, .any, .any, .any, .any, .any, .any, .any, .any, .any, .any, .any, .any, .any, .any, .any, .any, .any, .any, .any, .any, .any, .any, .any, .any, .any, .any, .any, .any, .any, .any, .any, .any, .any, .any, .any, .any, .any, .any, .any, .any, .any], [.no, .no, .no, .no, .no, .no, .no, .no, .no, .box g9 (exA e), .no, .no, .no, .no, .no, .no, .no, .no, .no, .no, .no, .no, .no, .no, .no, .no, .no, .no, .no, .no, .no, .no, .no, .no, .no, .no, .no, .no, .no, .no, .no, .no, .no, .no, .no, .no, .no, .no, .no, .no, .no, .no, .no, .no, .no, .no, .no, .no, .no, .no, .no, .no, .no, .no, .no, .no, .no, .no, .no, .no, .no, .no, .no, .no, .no, .no, .no, .no, .no, .no, .no, .no, .no, .no, .no, .no, .no, .no, .no, .no, .no, .no, .no, .no, .no, .no, .no, .no, .no, .no, .no, .no, .no, .no, .no, .no, .no, .no, .no, .no, .no, .no, .no, .no, .no, .no, .no, .no, .no, .no, .no, .no, .no, .no, .no, .no, .no, .no, .no, .no, .no, .no, .no, .no, .no, .no, .no, .no, .no, .no, .no, .no, .no, .no, .no, .no, .no, .no, .no, .no, .no, .no, .no, .no, .no, .no, .no, .no, .no, .no, .no, .no, .no, .no, .no, .no, .no, .no, .no, .no, .no, .no, .no, .no, .no, .no, .no, .no, .no, .no, .no, .no, .no, .no, .no, .no, .no, .no, .no, .no, .no, .no, .no, .no, .no, .no, .no, .row u1 28 9 (O.map bdD), .no, .no, .no, .no, .no, .no, .no, .no, .no, .no, .no, .no, .no, .no, .no, .no, .no, .no, .no, .no, .no, .no, .no, .no, .no, .no, .no, .no, .no, .no, .no, .no, .no, .no, .no, .no, .no, .no, .no, .no, .no, .no, .no, .no, .no, .no, .no, .no, .no, .no, .no, .no, .no, .no, .no, .no, .no, .no, .no, .no, .no, .no, .no, .no, .no, .no, .no, .no]⟩) ?_ ?_
        · simp only [exA]
          exact wkA
        · exact hG
      as_aux_lemma =>
        simp only [litI, litB, litS, exA]
        repeat' first | refine awp_seq ?_ | refine awp_block ?_ | refine awp_skip ?_ | (apply regB; (case hd => exact hdA); intro K hK) | (apply ev_guardU; (case hj | hu | hσ => (simp only [go_sem]; try rfl))) | ((first | refine awp_cond _ (by rfl) ?_ ?_ | ((first | apply ev_guardT | apply ev_guardF); (case hj | hb => (simp only [go_sem]; try rfl)))) <;> (first | refine ttA ?_ | refine ffA ?_ | (intro hb; first | (cases hb; done) | simp only [hb] | skip))) | ((first | apply awp_exit | apply awp_ret); refine tqA ?_) | (refine ev_nil (hK _ ?_); clear hK K) | (apply ev_step0; (case hr | hσ => (simp only [go_sem]; try rfl)); (case hc => exact hcA)) | (apply ev_step; (case hr | hσ => (intros; simp only [go_sem]; try rfl)); (case hc => exact hcA); intro g u; (try clear u); (try clear g)) | fail
        refine awp_loopI (fun i : Nat => i ≤ 3) (fun i => 3 - i) (fun i => ⟨[.any, .any, .any, .any, .any, .any, litB false, litB true, .d (tys ts), .ptr 9 g9 0, .any, .any, .any, .any, .any, .any, .any, .any, .any, .own 221 u, litI .i64 (i : Int), .any, .any, .any, .any, .any, .any, .any, .any, .any, .any, .any, .any, .any, .any, .any, .any, .any, .any, .any, .any, .any, .any, .any, .any, .any, .any, .any, .any, .any, .any, .any, .any, .any, .any, .any, .any, .any, .any, .any, .any, .any, .any, .any, .any, .any, .any, .any, .any, .any, .any, .any, .any, .any, .any, .any, .any, .any, .any, .any, .any, .any, .any, .any, .any, .any, .any, .any, .any, .any, .any, .any, .any, .any, .any, .any, .any, .any, .any, .any, .any, .any, .any, .any, .any, .any, .any, .any, .any, .any, .any, .any, .any, .any, .any, .any, .any, .any, .any, .any, .any, .any, .any, .any, .any, .any, .any, .any, .any, .any, .any, .any, .any, .any, .any, .any, .any, .any, .any, .any, .any, .any, .any, .any, .any, .any, .any, .any, .any, .any, .any, .any, .any, .any, .any, .any, .any, .any, .any, .any, .any, .any, .any, .any, .any, .any, .any, .any, .any, .any, .any, .any, .any, .any, .any, .any, .any, .any, .any, .any, .any, .any, .any, .any, .any, .any, .any, .any, .any, .any, .any, .any, .any, .any, .any, .any, .any, .any, .any, .any, .any, .any, .any, .any, .any, .any, .any, .any, .any, .any, .any, .any, .any, .any, .any, .any, .any, .any, .any, .any, .any, .any, .any, .any, .any, .any, .any, .any, .any, .any, .any, .any, .any, .any, .any, .any, .any, .any, .any, .any, .any, .any, .any, .any, .any, .any, .any, .any, .any, .any, .any, .any, .any, .any, .any, .any, .any, .any, .any, .any, .any, .any, .any, .any, .any, .any], [.no, .no, .no, .no, .no, .no, .no, .no, .no, .box g9 (exA e), .no, .no, .no, .no, .no, .no, .no, .no, .no, .no, .no, .no, .no, .no, .no, .no, .no, .no, .no, .no, .no, .no, .no, .no, .no, .no, .no, .no, .no, .no, .no, .no, .no, .no, .no, .no, .no, .no, .no, .no, .no, .no, .no, .no, .no, .no, .no, .no, .no, .no, .no, .no, .no, .no, .no, .no, .no, .no, .no, .no, .no, .no, .no, .no, .no, .no, .no, .no, .no, .no, .no, .no, .no, .no, .no, .no, .no, .no, .no, .no, .no, .no, .no, .no, .no, .no, .no, .no, .no, .no, .no, .no, .no, .no, .no, .no, .no, .no, .no, .no, .no, .no, .no, .no, .no, .no, .no, .no, .no, .no, .no, .no, .no, .no, .no, .no, .no, .no, .no, .no, .no, .no, .no, .no, .no, .no, .no, .no, .no, .no, .no, .no, .no, .no, .no, .no, .no, .no, .no, .no, .no, .no, .no, .no, .no, .no, .no, .no, .no, .no, .no, .no, .no, .no, .no, .no, .no, .no, .no, .no, .no, .no, .no, .no, .no, .no, .no, .no, .no, .no, .no, .no, .no, .no, .no, .no, .no, .no, .no, .no, .no, .no, .no, .no, .no, .no, .no, .no, .no, .no, .no, .no, .no, .no, .no, .no, .no, .no, .no, .no, .no, .no, .no, .no, .no, .no, .no, .no, .no, .no, .no, .row u 40 1 [[bds B], [bds O], [bds (List.replicate ts.length zeroBd)]], .no, .no, .no, .no, .no, .no, .no, .no, .no, .no, .no, .no, .no, .no, .no, .no, .no, .no, .no, .no, .no, .no, .no, .no, .no, .no, .no, .no, .no, .no, .no, .no, .no, .no, .no, .no, .no, .no, .no, .no, .no, .no, .no, .no]⟩) 0 (by omega) ?_ ?_
        · simp only [bds, List.map_replicate, exA]
          exact wkA
        intro i hi
        simp only [litI, litB, litS] at hi ⊢
        simp only [exA]
        by_cases h3 : i < 3
        · obtain ⟨X, hX1, hX2, hzz⟩ : ∃ X, X.length = ts.length ∧ (∀ b ∈ X, BdOk b) ∧ (i = 0 ∧ B = X ∨ i = 1 ∧ O = X ∨ i = 2 ∧ List.replicate ts.length zeroBd = X) := by
            obtain rfl | rfl | rfl : i = 0 ∨ i = 1 ∨ i = 2 := by omega
            · exact ⟨B, clen, cb, .inl ⟨rfl, rfl⟩⟩
            · exact ⟨O, hO1, hO2, .inr (.inl ⟨rfl, rfl⟩)⟩
            · exact ⟨_, List.length_replicate .., fun b hb => by rw [(List.mem_replicate.1 hb).2]; exact ⟨ok_null', ok_null', by decide⟩, .inr (.inr ⟨rfl, rfl⟩)⟩
          have d3 : decide ((i : Int) < ((3 : Nat) : Int)) = true := decide_eq_true (by omega)
          obtain ⟨n, hn⟩ : ∃ n, n = i + 1 := ⟨_, rfl⟩
          have w1 : IntKind.i64.wrap ((i : Int) + 1) = (n : Int) := by rw [wrap_id (by omega)]; omega
          have al := A0 X hX1 hX2
          have s20 := al.suits
          have s2 := al.same
          simp only [exA] at s20
          cases hS : suitsM ts X (List.range ts.length)
          rotate_left
          obtain ⟨x, y, un, s21, s22, s23, s24⟩ := s2 hS
          simp only [exA] at s21 s22 s23 s24
          all_goals
            rw [hS] at s20
            obtain ⟨rfl, rfl⟩ | ⟨rfl, rfl⟩ | ⟨rfl, rfl⟩ := hzz
            all_goals
              as_aux_lemma =>
                all_goals have H := And.intro d3 (And.intro w1 hfl)
                repeat' first | refine awp_seq ?_ | refine awp_block ?_ | refine awp_skip ?_ | (apply regB; (case hd => exact hdA); intro K hK) | (apply ev_guardU; (case hj | hu | hσ => (simp only [go_sem, H]; try rfl))) | ((first | refine awp_cond _ (by rfl) ?_ ?_ | ((first | apply ev_guardT | apply ev_guardF); (case hj | hb => (simp only [go_sem, H]; try rfl)))) <;> (first | refine ttA ?_ | refine ffA ?_ | (intro hb; first | (cases hb; done) | simp only [hb] | skip))) | ((first | apply awp_exit | apply awp_ret); refine tqA ?_) | (refine ev_nil (hK _ ?_); clear hK K) | (apply ev_call0; (case hys => (simp only [go_sem, H]; try rfl)); (case hs => first | exact s20 .. | exact s21 .. | exact s22 .. | exact s23 .. | exact s24 ..); (case hok | hσ => (simp only [go_sem, H]; try rfl))) | (apply regDB; (case hd => exact hdA); (case' h => (intro K hK; (repeat' first | (apply evd_nil; refine (hK _ ?_); clear hK K) | (apply evd_guardU0; (case hj | hu | hσ => (simp only [go_sem, H]; try rfl))) | (apply evd_guardU; (case hj | hu | hσ => (simp only [go_sem, H]; try rfl))) | (apply evd_skipT0; (case hj | hb | hσ => (simp only [go_sem, H]; try rfl))) | (apply evd_skipF0; (case hj | hb | hσ => (simp only [go_sem, H]; try rfl))) | (apply evd_skipT; (case hj | hb | hσ => (simp only [go_sem, H]; try rfl))) | (apply evd_skipF; (case hj | hb | hσ => (simp only [go_sem, H]; try rfl))) | (apply evd_guardT; (case hj | hb => (simp only [go_sem, H]; try rfl)); (case' h2 => (intro hb; first | (cases hb; done) | (simp only [hb]) | skip)); (case' h1 => (intro hb; first | (cases hb; done) | (simp only [hb]) | skip))) | (apply evd_guardF; (case hj | hb => (simp only [go_sem, H]; try rfl)); (case' h2 => (intro hb; first | (cases hb; done) | (simp only [hb]) | skip)); (case' h1 => (intro hb; first | (cases hb; done) | (simp only [hb]) | skip))) | (apply evd_call0; (case hi | hys => (simp only [go_sem, H]; try rfl)); (case hs => first | exact s20 .. | exact s21 .. | exact s22 .. | exact s23 .. | exact s24 ..); (case hok | hw | hσ => (simp only [go_sem, H]; try rfl))) | (apply evd_step0; (case hr | hi | hσ => (simp only [go_sem, H]; try rfl)); (case hc => exact hcA)) | (apply evd_step; (case hr | hi | hw | hσ => (intros; simp only [go_sem, H]; try rfl)); (case hc => exact hcA); (case' hk => (intro g u; (try clear u); (try clear g)))) | fail))); (case hB => kernel_rfl)) | (apply ev_step0; (case hr | hσ => (simp only [go_sem, H]; try rfl)); (case hc => exact hcA)) | (apply ev_step; (case hr | hσ => (intros; simp only [go_sem, H]; try rfl)); (case hc => exact hcA); intro g u; (try clear u); (try clear g)) | fail
                all_goals try clear H
                refine Exists.intro n ⟨by omega, by omega, ?_⟩
                try simp only [bds, List.map_replicate, exA]
                exact wkA
        have hi3 : i = 3 := by omega
        subst hi3
        have d3 : decide (((3 : Nat) : Int) < ((3 : Nat) : Int)) = false := by decide
        repeat' first | refine awp_seq ?_ | refine awp_block ?_ | refine awp_skip ?_ | (apply regB; (case hd => exact hdA); intro K hK) | (apply ev_guardU; (case hj | hu | hσ => (simp only [go_sem, d3]; try rfl))) | ((first | refine awp_cond _ (by rfl) ?_ ?_ | ((first | apply ev_guardT | apply ev_guardF); (case hj | hb => (simp only [go_sem, d3]; try rfl)))) <;> (first | refine ttA ?_ | refine ffA ?_ | (intro hb; first | (cases hb; done) | simp only [hb] | skip))) | ((first | apply awp_exit | apply awp_ret); refine tqA ?_) | (refine ev_nil (hK _ ?_); clear hK K) | (apply ev_step0; (case hr | hσ => (simp only [go_sem, d3]; try rfl)); (case hc => exact hcA)) | (apply ev_step; (case hr | hσ => (intros; simp only [go_sem, d3]; try rfl)); (case hc => exact hcA); intro g u; (try clear u); (try clear g)) | fail
        all_goals (refine resR_oneA ?_; simp only [go_sem])
        exact LeA.refl _
end
section
set_option linter.unusedVariables false
set_option linter.unusedSimpArgs false
open Go.RowKit
theorem ty5 {f : Nat} {ds : List Dat} (h : tyR T (f + 1) 5 ds) : ∃ n : Int, ds = [.lit (.int .u8 n)] ∧ 0 ≤ n ∧ n < 256 := by
  simp only [tyR, T5, ti5] at h
  obtain ⟨n, h1, h2⟩ := h
  have := bounds_u8 h2
  exact ⟨n, h1, by omega⟩
theorem cut_eqs {ds a r : List Dat} {k : Nat} (h1 : ds.take k = a) (h2 : ds.drop k = r) : ds = a ++ r := by
  rw [← h1, ← h2, List.take_append_drop]
theorem ty23 {f : Nat} {ds : List Dat} (h : tyR T (f + 2) 23 ds) : ∃ b : List Int, ds = [bytesD b] ∧ ∀ x ∈ b, 0 ≤ x ∧ x < 256 := by
  rw [tyR] at h
  simp only [T23, ti23, T5, ti5] at h
  obtain ⟨rows, rfl, h⟩ := h
  obtain ⟨l, rfl, hl⟩ := rows_of (f := fun n : Int => [Dat.lit (.int .u8 n)]) (Q := fun x => 0 ≤ x ∧ x < 256) h fun r hr => ty5 hr
  exact ⟨l, rfl, hl⟩
theorem ty24 {f : Nat} {ds : List Dat} (h : tyR T (f + 3) 24 ds) : ∃ b c d : List Int, ds = [bytesD b, bytesD c, bytesD d] ∧ (∀ x ∈ b, 0 ≤ x ∧ x < 256) ∧ (∀ x ∈ c, 0 ≤ x ∧ x < 256) ∧ ∀ x ∈ d, 0 ≤ x ∧ x < 256 := by
  rw [tyR] at h
  simp only [T24, ti24, T23, ti23, List.replicate_succ, List.replicate_zero, StructR] at h
  obtain ⟨h1, h2, h3, h4⟩ := h
  obtain ⟨b, h1, hb⟩ := ty23 h1
  obtain ⟨c, h2, hc⟩ := ty23 h2
  obtain ⟨d, h3, hd⟩ := ty23 h3
  exact ⟨b, c, d, cut_eqs h1 (cut_eqs h2 (cut_eqs h3 h4)), hb, hc, hd⟩
theorem tyRs_one {f t : Nat} {ts : List Nat} {dss : List (List Dat)} (h : tyRs T f (t :: ts) dss) : ∃ ds r, dss = ds :: r ∧ tyR T f t ds ∧ tyRs T f ts r := by
  cases dss with
  | nil => exact h.elim
  | cons ds r => exact ⟨ds, r, rfl, h.1, h.2⟩
theorem tyRs_nil {f : Nat} {dss : List (List Dat)} (h : tyRs T f [] dss) : dss = [] := by
  cases dss with
  | nil => rfl
  | cons ds r => exact h.elim
end
section
set_option linter.unusedVariables false
set_option linter.unusedSimpArgs false
open Go.RowKit
theorem ty3 {f : Nat} {ds : List Dat} (h : tyR T (f + 1) 3 ds) : ∃ n : Int, ds = [.lit (.int .i64 n)] ∧ -9223372036854775808 ≤ n ∧ n ≤ 9223372036854775807 := by
  simp only [tyR, T3, ti3] at h
  obtain ⟨n, h1, h2⟩ := h
  exact ⟨n, h1, bounds_i64 h2⟩
theorem ty4 {f : Nat} {ds : List Dat} (h : tyR T (f + 1) 4 ds) : ∃ b : Bool, ds = [.lit (.bool b)] := by
  simp only [tyR, T4, ti4] at h
  exact h
theorem ty9 {f : Nat} {ds : List Dat} (h : tyR T (f + 1) 9 ds) : ∃ s : ByteArray, ds = [.lit (.string s)] ∧ s.size ≤ 4611686018427387904 := by
  simp only [tyR, T9, ti9] at h
  obtain ⟨s, h1, h2⟩ := h
  have : reachBytes ≤ 4611686018427387904 := by decide
  exact ⟨s, h1, by omega⟩
theorem ty26 {f : Nat} {ds : List Dat} (h : tyR T (f + 2) 26 ds) : ∃ v : Vl, ds = vlD v ∧ VlOk v := by
  rw [tyR] at h
  simp only [T26, ti26, T3, ti3, T9, ti9, List.map_cons, List.map_nil, StructR] at h
  obtain ⟨h1, h2, h3, h4⟩ := h
  obtain ⟨k, h1, -⟩ := ty3 h1
  obtain ⟨i, h2, hi⟩ := ty3 h2
  obtain ⟨s, h3, hs⟩ := ty9 h3
  exact ⟨⟨k, i, s⟩, cut_eqs h1 (cut_eqs h2 (cut_eqs h3 h4)), ⟨hi, hs⟩⟩
theorem ty22 {f : Nat} {ds : List Dat} (h : tyR T (f + 3) 22 ds) : ∃ l : List Vl, ds = [vls l] ∧ ∀ v ∈ l, VlOk v := by
  rw [tyR] at h
  simp only [T22, ti22, T26, ti26] at h
  obtain ⟨rows, rfl, h⟩ := h
  obtain ⟨l, rfl, hl⟩ := rows_of (f := vlD) (Q := VlOk) h fun r hr => ty26 hr
  exact ⟨l, rfl, hl⟩
theorem ty28 {f : Nat} {ds : List Dat} (h : tyR T (f + 3) 28 ds) : ∃ b : Bd, ds = bdD b ∧ BdOk b := by
  rw [tyR] at h
  simp only [T28, ti28, T3, ti3, T4, ti4, T26, ti26, List.map_cons, List.map_nil, StructR] at h
  obtain ⟨h1, h2, h3, h4, h5, h6⟩ := h
  obtain ⟨n, h1, -⟩ := ty3 h1
  obtain ⟨b, h2⟩ := ty4 h2
  obtain ⟨lo, h3, hlo⟩ := ty26 h3
  obtain ⟨hi, h4, hhi⟩ := ty26 h4
  obtain ⟨s, h5, hs⟩ := ty3 h5
  exact ⟨⟨n, b, lo, hi, s⟩, cut_eqs h1 (cut_eqs h2 (cut_eqs h3 (cut_eqs h4 (cut_eqs h5 h6)))), ⟨hlo, hhi, hs⟩⟩
theorem ty29 {f : Nat} {ds : List Dat} (h : tyR T (f + 4) 29 ds) : ∃ x y z : Bd, ds = bdD x ++ (bdD y ++ bdD z) ∧ BdOk x ∧ BdOk y ∧ BdOk z := by
  rw [tyR] at h
  simp only [T29, ti29, T28, ti28, List.replicate_succ, List.replicate_zero, StructR] at h
  obtain ⟨h1, h2, h3, h4⟩ := h
  obtain ⟨x, h1, hx⟩ := ty28 h1
  obtain ⟨y, h2, hy⟩ := ty28 h2
  obtain ⟨z, h3, hz⟩ := ty28 h3
  refine ⟨x, y, z, ?_, hx, hy, hz⟩
  have := cut_eqs h1 (cut_eqs h2 (cut_eqs h3 h4))
  rw [List.append_nil] at this
  exact this
end
end Go.Proofs.YtopigomfhggkoaaDoor.A
