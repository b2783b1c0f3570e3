/- Data of the arguments' types. ConstraintKeeps: the walk. The law ConstraintKeeps. -/
import Derived.Test.YtlkfbhhopkoopaaY5
import Derived.Test.YtlkfbhhopkoopaaR2
namespace Go.Proofs.Ytlkfbhhopkoopaa.A
attribute [local go_sem] Nat.reduceAdd Nat.reduceSub Nat.reduceMul Nat.reduceLT Nat.reduceLeDiff Nat.reduceEqDiff Nat.reduceBEq reduceIte reduceCtorEq e_step_none e_slotU e_slotB e_move e_assign e_pick e_unOp e_binOp e_alloc e_box e_build e_buildSlice e_load e_store e_fieldAddr e_field e_indexAddr e_index e_slice e_makeSlice e_makeFunc e_convert e_extract e_nilCheck e_len e_append e_max e_min e_call e_callV e_fn e_cap_ptr e_cap_lit e_cap_sl e_cap_fn e_fnOf_clo e_fnOf_fn e_flat_fn e_clo e_ev_tmp e_ev_int e_ev_bool e_ev_string e_ev_slice e_ev_nilFunc e_ev_nilIface e_ev_pointer e_ev_agg e_ev_func e_pickT e_pickF e_not e_neg e_add e_sub e_mul e_quo e_rem e_eql e_neq e_lss e_leq e_gtr e_geq e_shl e_shr e_and e_or e_xor e_andNot e_beq e_bne e_sadd e_seql e_sneq e_b2_d e_b2_nil e_b2_nnil e_b2_agg e_lits_nil e_lits_cons e_litC e_eqR e_eqO_e e_eqO_n e_eqV4 e_eqV3 e_eqV2 e_eqV1 e_eqFs_nil e_eqFs_cons e_and2 e_eq1 e_eqL_i e_eqL_s e_eqL_b e_allocR e_boxR e_box_agg e_box_d e_box_own e_box_clo e_one_nil e_one_d e_one_own e_one_clo e_one_ptr e_cells_agg e_cells_d e_cells_own e_cells_clo e_cells_ptr e_ob_own e_ob_ptr e_ob_elo e_ob_d e_ob_el e_ob_agg e_load_box e_load_fzb e_load_el e_load_elo e_storeX_ptr e_storeX_d e_storeX_own e_storeX_agg e_storeX_el e_storeC' e_notIn_nil e_notIn_cons e_store_box e_storeB e_store_elo e_store_elo_agg e_storeE e_fa_ptr e_fa_el e_fa_elo e_faR e_fd e_fdR e_ia_d e_ia_row e_ia_fz e_ia_ptr e_ia_el e_ix_s e_ix_a e_len_s e_len_nil e_len_d e_len_row e_len_fz e_conv_i e_conv_s e_extr e_maxR e_minR e_nil_ptr e_nil_el e_nil_elo e_rows_nil e_rows_d e_rows_row e_rows_fz e_rok_nil e_rok_d e_rok_row e_rok_fz e_app_row e_appR e_app_nil e_appN e_make e_bnd_none e_bnd_some e_optmap_none e_optmap_some e_slR e_slRe e_sl_s e_sl_d e_sl_nil e_sl_row e_sl_fz e_fill_nil e_fill_cons e_fill1 e_placeS e_plS e_placeE e_buildO e_build1 e_build2 e_build3 e_bindD e_bs e_bsR e_allD_nil e_allD_cons e_allD_el e_allD_clo e_allD2 e_allD1 e_chunk0 e_chunkS e_clP_nil e_clP_cons e_cl_d e_cl_any e_cl_el e_cl_agg e_cl_tup e_cl_clo e_cl_own e_clOwn_row e_clOwn_fz e_cl_ptr e_clPtr_box e_clBox e_clPtr_fzb e_clL_nil e_clL_cons e_ok_d e_ok_any e_ok_el e_ok_agg e_ok_tup e_ok_clo e_ok_own e_okOwn_row e_okOwn_fz e_ok_ptr e_okPtr_box e_okPtr_fzb e_okL_nil e_okL_cons e_ids_d e_ids_any e_ids_el e_ids_own e_ids_ptr e_ids_agg e_ids_tup e_ids_clo e_idsL_nil e_idsL_cons e_frz_nil e_frz_cons e_frz_row e_frz_fz e_frz_fzb e_frz_box e_frzB e_flat_lit e_flat_sl e_flat_agg e_flat_tup e_flat_any e_flat_clo e_flatL_nil e_flatL_cons e_new_lit e_new_agg e_new_tup e_new_own e_newOwn_row e_newL_nil e_newL_cons e_objD e_setMany e_takeA e_zerosA e_gdL e_idsG e_idsOp e_callV' e_callN' e_callF' e_o_move e_o_assign e_o_pick e_o_unOp e_o_binOp e_o_alloc e_o_box e_o_build e_o_buildSlice e_o_load e_o_store e_o_fieldAddr e_o_field e_o_indexAddr e_o_index e_o_slice0 e_o_slice1 e_o_slice2 e_o_slice3 e_o_makeSlice e_o_makeFunc e_o_convert e_o_extract e_o_nilCheck e_o_bcall e_o_vcall litI litB litS
attribute [local go_sem] List.map_cons List.map_nil List.getD_cons_zero List.getD_cons_succ List.getD_nil List.getElem?_cons_zero List.getElem?_cons_succ List.getElem?_nil Option.getD_some Option.getD_none Option.map_some Option.map_none List.length_cons List.length_nil List.all_cons List.all_nil Bool.and_true Bool.true_and and_true true_and and_self List.take_zero List.take_succ_cons List.drop_zero List.drop_succ_cons List.nil_append List.cons_append List.append_nil List.replicate_succ List.replicate_zero List.flatten_cons List.flatten_nil Nat.zero_add Nat.add_zero Nat.mul_one Nat.zero_mul Nat.one_mul Nat.mul_zero List.set_cons_zero List.set_cons_succ List.foldl_cons List.foldl_nil appendOk rowsOk inB sliceOk cutRows mtake mdrop List.length_append List.length_take List.length_drop if_true if_false or_false or_true true_or Bool.not_true Bool.not_false Bool.false_eq_true List.length_map Int.toNat_natCast Int.toNat_zero Int.toNat_one eq_self St.after St.put applyEff R0 T1 T2 T3 T4 T5 T9 T15 T22 T24 T25 T26 T28 T29 T30 T32 T34 T36 T39 T42 T44 T47 T49 T51 T52 T54 T55 T57 T58 T60 T64 T68 T70 T72 T74 T76 T81 T83 T87 T90 T94 T97 T102 T113 T116 T119 T131 T134 T143 T145 T149 T151 T154 ti1 ti2 ti3 ti4 ti5 ti9 ti15 ti22 ti24 ti25 ti26 ti28 ti29 ti30 ti32 ti34 ti36 ti39 ti42 ti44 ti47 ti49 ti51 ti52 ti54 ti55 ti57 ti58 ti60 ti64 ti68 ti70 ti72 ti74 ti76 ti81 ti83 ti87 ti90 ti94 ti97 ti102 ti113 ti116 ti119 ti131 ti134 ti143 ti145 ti149 ti151 ti154
section
set_option linter.unusedVariables false
set_option linter.unusedSimpArgs false
open Go.RowKit
theorem ty3 {f : Nat} {ds : List Dat} (h : tyR T (f + 1) 3 ds) : ∃ n : Int, ds = [.lit (.int .i64 n)] := by
  simp only [tyR, T3, ti3] at h
  obtain ⟨n, h1, _⟩ := h
  exact ⟨n, h1⟩
theorem ty5 {f : Nat} {ds : List Dat} (h : tyR T (f + 1) 5 ds) : ∃ n : Int, ds = [.lit (.int .u8 n)] ∧ 0 ≤ n ∧ n < 256 := by
  simp only [tyR, T5, ti5] at h
  obtain ⟨n, h1, h2⟩ := h
  have := bounds_u8 h2
  exact ⟨n, h1, by omega⟩
theorem cut_eqs {ds a r : List Dat} {k : Nat} (h1 : ds.take k = a) (h2 : ds.drop k = r) : ds = a ++ r := by
  rw [← h1, ← h2, List.take_append_drop]
theorem ty22 {f : Nat} {ds : List Dat} (h : tyR T (f + 2) 22 ds) : ∃ b : List Int, ds = [bytesD b] ∧ ∀ x ∈ b, 0 ≤ x ∧ x < 256 := by
  rw [tyR] at h
  simp only [T22, ti22, T5, ti5] at h
  obtain ⟨rows, rfl, h⟩ := h
  obtain ⟨l, rfl, hl⟩ := rows_of (f := fun n : Int => [Dat.lit (.int .u8 n)]) (Q := fun x => 0 ≤ x ∧ x < 256) h fun r hr => ty5 hr
  exact ⟨l, rfl, hl⟩
theorem ty26 {f : Nat} {ds : List Dat} (h : tyR T (f + 2) 26 ds) : ∃ b : List Int, ds = [ints b] := by
  rw [tyR] at h
  simp only [T26, ti26, T3, ti3] at h
  obtain ⟨rows, rfl, h⟩ := h
  obtain ⟨l, rfl, hl⟩ := rows_of (f := fun n : Int => [Dat.lit (.int .i64 n)]) (Q := fun x => True) h fun r hr => by
    obtain ⟨n, h⟩ := ty3 hr
    exact ⟨n, h, trivial⟩
  exact ⟨l, rfl⟩
theorem ty24 {f : Nat} {ds : List Dat} (h : tyR T (f + 3) 24 ds) : ∃ b : List Int, ds = [bytesD b] ∧ ∀ x ∈ b, 0 ≤ x ∧ x < 256 := by
  rw [tyR] at h
  simp only [T24, ti24, T22, ti22, List.map_cons, List.map_nil, StructR] at h
  obtain ⟨h1, h2⟩ := h
  obtain ⟨b, h1, hb⟩ := ty22 h1
  exact ⟨b, cut_eqs h1 h2, hb⟩
theorem ty25 {f : Nat} {ds : List Dat} (h : tyR T (f + 3) 25 ds) : ∃ b c : List Int, ds = [bytesD b, bytesD c] ∧ (∀ x ∈ b, 0 ≤ x ∧ x < 256) ∧ ∀ x ∈ c, 0 ≤ x ∧ x < 256 := by
  rw [tyR] at h
  simp only [T25, ti25, T22, ti22, List.replicate_succ, List.replicate_zero, StructR] at h
  obtain ⟨h1, h2, h3⟩ := h
  obtain ⟨b, h1, hb⟩ := ty22 h1
  obtain ⟨c, h2, hc⟩ := ty22 h2
  exact ⟨b, c, cut_eqs h1 (cut_eqs h2 h3), hb, hc⟩
theorem ty81 {f : Nat} {ds : List Dat} (h : tyR T (f + 2) 81 ds) : ∃ a b : Int, ds = [.lit (.int .u8 a), .lit (.int .u8 b)] ∧ (0 ≤ a ∧ a < 256) ∧ 0 ≤ b ∧ b < 256 := by
  rw [tyR] at h
  simp only [T81, ti81, T5, ti5, List.replicate_succ, List.replicate_zero, StructR] at h
  obtain ⟨h1, h2, h3⟩ := h
  obtain ⟨b, h1, hb⟩ := ty5 h1
  obtain ⟨c, h2, hc⟩ := ty5 h2
  exact ⟨b, c, cut_eqs h1 (cut_eqs h2 h3), hb, hc⟩
theorem ty87 {f : Nat} {ds : List Dat} (h : tyR T (f + 2) 87 ds) : ∃ a b c : Int, ds = [.lit (.int .u8 a), .lit (.int .u8 b), .lit (.int .u8 c)] ∧ (0 ≤ a ∧ a < 256) ∧ (0 ≤ b ∧ b < 256) ∧ 0 ≤ c ∧ c < 256 := by
  rw [tyR] at h
  simp only [T87, ti87, T5, ti5, List.replicate_succ, List.replicate_zero, StructR] at h
  obtain ⟨h1, h2, h3, h4⟩ := h
  obtain ⟨b, h1, hb⟩ := ty5 h1
  obtain ⟨c, h2, hc⟩ := ty5 h2
  obtain ⟨d, h3, hd⟩ := ty5 h3
  exact ⟨b, c, d, cut_eqs h1 (cut_eqs h2 (cut_eqs h3 h4)), hb, hc, hd⟩
theorem tyRs_one {f t : Nat} {ts : List Nat} {dss : List (List Dat)} (h : tyRs T f (t :: ts) dss) : ∃ ds r, dss = ds :: r ∧ tyR T f t ds ∧ tyRs T f ts r := by
  cases dss with
  | nil => exact h.elim
  | cons ds r => exact ⟨ds, r, rfl, h.1, h.2⟩
theorem tyRs_nil {f : Nat} {dss : List (List Dat)} (h : tyRs T f [] dss) : dss = [] := by
  cases dss with
  | nil => rfl
  | cons ds r => exact h.elim
end
section
set_option linter.unusedVariables false
set_option linter.unusedSimpArgs false
open Go.RowKit
attribute [local irreducible] AWp evOps evD
/-- Rows with some more rows. -/
def putAll (n : Nat) (l : List Rw) : List Rw → List Rw
  | [] => l
  | r :: rs => putAll n (putR n r l) rs
theorem putAll_snoc (n : Nat) (r : Rw) : ∀ (rs l : List Rw), putAll n l (rs ++ [r]) = putR n r (putAll n l rs)
  | [], _ => rfl
  | x :: rs, l => by simp only [List.cons_append, putAll, putAll_snoc n r rs]
theorem putAll_ok {n m : Nat} : ∀ {rs l : List Rw}, (∀ r ∈ rs, RowV m r) → (∀ r ∈ l, RowV m r) → Srt n l → (∀ r ∈ putAll n l rs, RowV m r) ∧ Srt n (putAll n l rs) ∧ (putAll n l rs).length ≤ l.length + rs.length
  | [], l, _, hl, hs => ⟨hl, hs, by show l.length ≤ _; simp⟩
  | x :: rs, l, hr, hl, hs => by
    have h1 := putAll_ok (n := n) (l := putR n x l) (fun r h => hr r (List.mem_cons_of_mem _ h)) (fun r h => by
      rcases putR_mem h with rfl | h
      · exact hr _ (List.mem_cons_self ..)
      · exact hl r h) (putR_srt hs)
    have h2 := (putR_len n x l).2
    exact ⟨h1.1, h1.2.1, by have := h1.2.2; simp only [putAll, List.length_cons]; omega⟩
theorem set_self {st : Stt} {t : Nat} (h : t < st.length) : st.set t (st.getD t []) = st := by
  apply List.ext_getElem
  · simp
  · intro i h1 h2
    rw [List.getElem_set]
    split
    · rename_i e; subst e; rw [getD_get h2]
    · rfl
theorem rem_nat {a : Int} (ha : 0 ≤ a) {n : Nat} (hn : 0 < n) : ∃ t : Nat, a.tmod (n : Int) = t ∧ t < n := by
  have h1 := Int.tmod_nonneg (n : Int) ha
  have h2 := Int.tmod_lt_of_pos a (b := (n : Int)) (by omega)
  exact ⟨(a.tmod (n : Int)).toNat, by omega, by omega⟩
set_option maxHeartbeats 32000000 in
set_option maxRecDepth 10000 in
theorem f7_spec (b b0 b1 : List Int) (ka kb : Int) (hb : ∀ x ∈ b, 0 ≤ x ∧ x < 256) (hb0 : ∀ x ∈ b0, 0 ≤ x ∧ x < 256) (hb1 : ∀ x ∈ b1, 0 ≤ x ∧ x < 256) (hka : 0 ≤ ka ∧ ka < 256) (hkb : 0 ≤ kb ∧ kb < 256) : Spec Try.prog 7 [.agg [.d (bytesD b)], .agg [.d (bytesD b0), .d (bytesD b1)], .agg [litI .u8 ka, litI .u8 kb]] (litB true) := by
  have h := madeS_ok hb
  have h10 := f10_spec b hb
  generalize madeS b = s at *
  have k0 := madeM_ok h hb0
  have k1 := madeM_ok h hb1
  have h110 := f11_spec s b0 h hb0
  have h111 := f11_spec s b1 h hb1
  generalize madeM s b0 = st0 at *
  generalize madeM s b1 = ot at *
  have h12 := f12_spec s st0 h k0.1 (by omega)
  have k2 := mend_v h 40 k0.1
  generalize mendM s 40 st0 = old at *
  obtain ⟨hold, hoc⟩ := k2
  obtain ⟨hot, htc⟩ := k1
  have htb := h.tlen
  obtain ⟨tn, htn, htl⟩ := rem_nat (n := s.tables.length) hka.1 (by omega)
  have hol := hold.len
  have htol := hot.len
  have wa : IntKind.i64.wrap ka = ka := wrap_id (by omega)
  have wb : IntKind.i64.wrap kb = kb := wrap_id (by omega)
  have hx := stt_at old (i := tn) (by omega)
  have hy := stt_at ot (i := tn) (by omega)
  have hz := tbs_at s.tables htl
  have hkn : (s.tables.getD tn tbN).key = keyN s tn := rfl
  have hkc := h.keys tn htl
  have hsame := set_self (st := old) (t := tn) (by omega)
  have hcl := cnt_le (st := old) tn
  have hct := cnt_le (st := ot) tn
  have sold := hold.sts (by omega)
  have sot := hot.sts (by omega)
  obtain ⟨d, hd⟩ : ∃ d, decide (((old.getD tn []).length : Int) > 0) = d := ⟨_, rfl⟩
  obtain ⟨wo, hwo⟩ : ∃ wo : Stt, d = true → StS s wo ∧ ∃ j : Nat, kb.tmod ((old.getD tn []).length : Int) = j ∧ Spec Try.prog 26 [.agg (stA old), litI .i64 (tn : Int), litI .i64 (j : Int)] (.agg (stA wo)) := by
    cases d with
    | false => exact ⟨[], fun h => by cases h⟩
    | true =>
      have := of_decide_eq_true hd
      obtain ⟨j, hj, hjl⟩ := rem_nat (n := (old.getD tn []).length) hkb.1 (by omega)
      have h26 := f26_spec old tn j (by omega) (by omega) hjl (by omega)
      have hcw := cnt_without hold htl hjl
      exact ⟨withoutR old tn j, fun _ => ⟨(hold.without htl j).sts (by omega), j, hj, h26⟩⟩
  obtain ⟨al0, hal0⟩ : ∃ al0 : List Stt, ([ot, old] ++ if d = true then [wo] else []) = al0 := ⟨_, rfl⟩
  have hS0 : ∀ x ∈ al0, StS s x := fun x hx => by
    rw [← hal0] at hx
    simp only [List.cons_append, List.nil_append, List.mem_cons] at hx
    rcases hx with rfl | rfl | hx
    · exact sot
    · exact sold
    · split at hx
      · simp only [List.mem_singleton] at hx; subst hx; exact (hwo ‹_›).1
      · simp at hx
  have hlen0 : al0.length ≤ 3 := by rw [← hal0]; cases d <;> simp
  have hmx : StS s (old.set tn (ot.getD tn [])) := by
    refine (hold.set htl (hot.rows _ htl) (hot.srt _ htl)).sts ?_
    have := cnt_set (st := old) (t := tn) (by omega) (ot.getD tn [])
    omega
  obtain ⟨pa, hpa⟩ : ∃ pa : Nat → List Rw, ∀ i, putAll (keyN s tn) (old.getD tn []) ((ot.getD tn []).take i) = pa i := ⟨_, fun _ => rfl⟩
  have hpa0 : pa 0 = old.getD tn [] := by rw [← hpa]; rfl
  have hpaS : ∀ i, i < (ot.getD tn []).length → pa (i + 1) = putR (keyN s tn) ((ot.getD tn []).getD i []) (pa i) := fun i hi => by
    rw [← hpa, ← hpa, take_succ' _ [] hi, putAll_snoc]
  have hpaok : ∀ i, i ≤ 2 → (∀ r ∈ pa i, RowV (colN s tn) r) ∧ Srt (keyN s tn) (pa i) ∧ (pa i).length ≤ (old.getD tn []).length + 2 := fun i hi => by
    have := putAll_ok (n := keyN s tn) (m := colN s tn) (rs := (ot.getD tn []).take i) (l := old.getD tn []) (fun r hr => hot.rows _ htl r (List.mem_of_mem_take hr)) (hold.rows _ htl) (hold.srt _ htl)
    rw [hpa] at this
    refine ⟨this.1, this.2.1, ?_⟩
    have h2 := this.2.2
    rw [List.length_take] at h2
    omega
  have hnS : ∀ i, i ≤ 2 → StS s (old.set tn (pa i)) := fun i hi => by
    have h1 := hpaok i hi
    refine (hold.set htl h1.1 h1.2.1).sts ?_
    have := cnt_set (st := old) (t := tn) (by omega) (pa i)
    have := h1.2.2
    omega
  have hrowsT := hot.rows _ htl
  have hkeep := fun x hx => keeps_eq (s := s) (old := old) (now := x) h sold hx
  have c24 := fun x hx => f24_spec s old x h sold hx
  have c17 := fun x hx => f17_spec s x h hx
  have c17o := c17 old sold
  clear hpa
  cases d
  refine spec_of_awp (fn := Try.f7) Try.func7 (by kernel_rfl) rfl ?_
  intro w0 C0
  simp only [Try.ntmps7, litI, litB, litS, List.length_cons, List.length_nil, Nat.reduceAdd, Nat.reduceSub, List.replicate_succ, List.replicate_zero, List.cons_append, List.nil_append]
  repeat' first
    | refine awp_seq ?_
    | refine awp_block ?_
    | refine awp_skip ?_
    | (refine reg _ (by (simp only [List.map_cons, List.map_nil]; rfl)) rfl ?_; intro K hK)
    | (refine awp_cond _ (by rfl) ?_ ?_ <;> (intro hb; first | (cases hb; done) | (have ht : true = true := hb; clear ht hb) | (have ht : false = false := hb; clear ht hb) | (simp only [hb]) | skip))
    | (refine awp_exit ?_; simp only [thenA, blockA, scopeA, reduceIte, RetQ, Nat.reduceEqDiff])
    | (refine awp_ret ?_; simp only [thenA, blockA, scopeA, RetQ])
    | (refine ev_nil (hK _ ?_); clear hK K)
    | (apply ev_guardU; (case hj | hu | hσ => (simp only [go_sem, Bool.and_false, Bool.false_and, Bool.and_self, wa, htn, hx, hd]; try rfl)))
    | (refine ev_guardT _ _ (by (simp only [go_sem, Bool.and_false, Bool.false_and, Bool.and_self, wa, htn, hx, hd]; rfl)) (by (simp only [go_sem, Bool.and_false, Bool.false_and, Bool.and_self, wa, htn, hx, hd]; rfl)) ?_ ?_ <;> (intro hb; first | (cases hb; done) | (have ht : true = true := hb; clear ht hb) | (have ht : false = false := hb; clear ht hb) | (simp only [hb]) | skip))
    | (refine ev_guardF _ _ (by (simp only [go_sem, Bool.and_false, Bool.false_and, Bool.and_self, wa, htn, hx, hd]; rfl)) (by (simp only [go_sem, Bool.and_false, Bool.false_and, Bool.and_self, wa, htn, hx, hd]; rfl)) ?_ ?_ <;> (intro hb; first | (cases hb; done) | (have ht : true = true := hb; clear ht hb) | (have ht : false = false := hb; clear ht hb) | (simp only [hb]) | skip))
    | (apply ev_call0; (case hys => (simp only [go_sem, Bool.and_false, Bool.false_and, Bool.and_self, wa, htn, hx, hd]; try rfl)); (case hs => first | exact f9_spec .. | exact h10 .. | exact h110 .. | exact h111 .. | exact h12 ..); (case hok | hσ => (simp only [go_sem, Bool.and_false, Bool.false_and, Bool.and_self, wa, htn, hx, hd]; try rfl)))
    | (apply regD; (case hd => (simp only [List.map_cons, List.map_nil]; rfl)); (case hok => rfl); (case' h => (intro K hK; (repeat' first
        | (apply evd_nil; refine (hK _ ?_); clear hK K)
        | (apply evd_guardU0; (case hj | hu | hσ => (simp only [go_sem, Bool.and_false, Bool.false_and, Bool.and_self, wa, htn, hx, hd]; try rfl)))
        | (apply evd_guardU; (case hj | hu | hσ => (simp only [go_sem, Bool.and_false, Bool.false_and, Bool.and_self, wa, htn, hx, hd]; try rfl)))
        | (apply evd_skipT0; (case hj | hb | hσ => (simp only [go_sem, Bool.and_false, Bool.false_and, Bool.and_self, wa, htn, hx, hd]; try rfl)))
        | (apply evd_skipF0; (case hj | hb | hσ => (simp only [go_sem, Bool.and_false, Bool.false_and, Bool.and_self, wa, htn, hx, hd]; try rfl)))
        | (apply evd_skipT; (case hj | hb | hσ => (simp only [go_sem, Bool.and_false, Bool.false_and, Bool.and_self, wa, htn, hx, hd]; try rfl)))
        | (apply evd_skipF; (case hj | hb | hσ => (simp only [go_sem, Bool.and_false, Bool.false_and, Bool.and_self, wa, htn, hx, hd]; try rfl)))
        | (apply evd_guardT; (case hj | hb => (simp only [go_sem, Bool.and_false, Bool.false_and, Bool.and_self, wa, htn, hx, hd]; try rfl)); (case' h2 => (intro hb; first | (cases hb; done) | (simp only [hb]) | skip)); (case' h1 => (intro hb; first | (cases hb; done) | (simp only [hb]) | skip)))
        | (apply evd_guardF; (case hj | hb => (simp only [go_sem, Bool.and_false, Bool.false_and, Bool.and_self, wa, htn, hx, hd]; try rfl)); (case' h2 => (intro hb; first | (cases hb; done) | (simp only [hb]) | skip)); (case' h1 => (intro hb; first | (cases hb; done) | (simp only [hb]) | skip)))
        | (apply evd_call0; (case hi | hys => (simp only [go_sem, Bool.and_false, Bool.false_and, Bool.and_self, wa, htn, hx, hd]; try rfl)); (case hs => first | exact f9_spec .. | exact h10 .. | exact h110 .. | exact h111 .. | exact h12 ..); (case hok | hw | hσ => (simp only [go_sem, Bool.and_false, Bool.false_and, Bool.and_self, wa, htn, hx, hd]; try rfl)))
        | (apply evd_step0; (case hr | hi | hσ => (simp only [go_sem, Bool.and_false, Bool.false_and, Bool.and_self, wa, htn, hx, hd]; try rfl)); (case hc => (first | trivial | decide | (simp only [inB, sliceOk, appendOk, rowsOk]; omega) | (simp [inB, sliceOk, appendOk, rowsOk]; omega))))
        | (apply evd_step; (case hr | hi => (simp only [go_sem, Bool.and_false, Bool.false_and, Bool.and_self, wa, htn, hx, hd]; try rfl)); (case hc => (first | trivial | decide | (simp only [inB, sliceOk, appendOk, rowsOk]; omega) | (simp [inB, sliceOk, appendOk, rowsOk]; omega))); (case hw | hσ => (intro g u; simp only [go_sem, Bool.and_false, Bool.false_and, Bool.and_self, wa, htn, hx, hd]; try rfl)); (case' hk => (intro g u; (try clear u); (try clear g))))
        | fail))); (case hB => kernel_rfl))
    | (apply ev_step0; (case hr | hσ => (simp only [go_sem, Bool.and_false, Bool.false_and, Bool.and_self, wa, htn, hx, hd]; try rfl)); (case hc => (first | trivial | decide | (simp only [inB, sliceOk, appendOk, rowsOk]; omega) | (simp [inB, sliceOk, appendOk, rowsOk]; omega))))
    | (apply ev_step; (case hr => (simp only [go_sem, Bool.and_false, Bool.false_and, Bool.and_self, wa, htn, hx, hd]; try rfl)); (case hσ => (intro g u; simp only [go_sem, Bool.and_false, Bool.false_and, Bool.and_self, wa, htn, hx, hd]; try rfl)); (case hc => (first | trivial | decide | (simp only [inB, sliceOk, appendOk, rowsOk]; omega) | (simp [inB, sliceOk, appendOk, rowsOk]; omega))); intro g u; (try clear u); (try clear g))
    | fail
  rename_i g3 g4 g5 g8 g9 g10 v41 u65
  rotate_left
  obtain ⟨hwS, j, hj, h26⟩ := hwo rfl
  have hlp : 0 < (old.getD tn []).length := by have := of_decide_eq_true hd; omega
  refine spec_of_awp (fn := Try.f7) Try.func7 (by kernel_rfl) rfl ?_
  intro w0 C0
  simp only [Try.ntmps7, litI, litB, litS, List.length_cons, List.length_nil, Nat.reduceAdd, Nat.reduceSub, List.replicate_succ, List.replicate_zero, List.cons_append, List.nil_append]
  repeat' first
    | refine awp_seq ?_
    | refine awp_block ?_
    | refine awp_skip ?_
    | (refine reg _ (by (simp only [List.map_cons, List.map_nil]; rfl)) rfl ?_; intro K hK)
    | (refine awp_cond _ (by rfl) ?_ ?_ <;> (intro hb; first | (cases hb; done) | (have ht : true = true := hb; clear ht hb) | (have ht : false = false := hb; clear ht hb) | (simp only [hb]) | skip))
    | (refine awp_exit ?_; simp only [thenA, blockA, scopeA, reduceIte, RetQ, Nat.reduceEqDiff])
    | (refine awp_ret ?_; simp only [thenA, blockA, scopeA, RetQ])
    | (refine ev_nil (hK _ ?_); clear hK K)
    | (apply ev_guardU; (case hj | hu | hσ => (simp only [go_sem, Bool.and_false, Bool.false_and, Bool.and_self, wa, wb, htn, hx, hd, hj]; try rfl)))
    | (refine ev_guardT _ _ (by (simp only [go_sem, Bool.and_false, Bool.false_and, Bool.and_self, wa, wb, htn, hx, hd, hj]; rfl)) (by (simp only [go_sem, Bool.and_false, Bool.false_and, Bool.and_self, wa, wb, htn, hx, hd, hj]; rfl)) ?_ ?_ <;> (intro hb; first | (cases hb; done) | (have ht : true = true := hb; clear ht hb) | (have ht : false = false := hb; clear ht hb) | (simp only [hb]) | skip))
    | (refine ev_guardF _ _ (by (simp only [go_sem, Bool.and_false, Bool.false_and, Bool.and_self, wa, wb, htn, hx, hd, hj]; rfl)) (by (simp only [go_sem, Bool.and_false, Bool.false_and, Bool.and_self, wa, wb, htn, hx, hd, hj]; rfl)) ?_ ?_ <;> (intro hb; first | (cases hb; done) | (have ht : true = true := hb; clear ht hb) | (have ht : false = false := hb; clear ht hb) | (simp only [hb]) | skip))
    | (apply ev_call0; (case hys => (simp only [go_sem, Bool.and_false, Bool.false_and, Bool.and_self, wa, wb, htn, hx, hd, hj]; try rfl)); (case hs => first | exact f9_spec .. | exact h10 .. | exact h110 .. | exact h111 .. | exact h12 .. | exact h26 ..); (case hok | hσ => (simp only [go_sem, Bool.and_false, Bool.false_and, Bool.and_self, wa, wb, htn, hx, hd, hj]; try rfl)))
    | (apply regD; (case hd => (simp only [List.map_cons, List.map_nil]; rfl)); (case hok => rfl); (case' h => (intro K hK; (repeat' first
        | (apply evd_nil; refine (hK _ ?_); clear hK K)
        | (apply evd_guardU0; (case hj | hu | hσ => (simp only [go_sem, Bool.and_false, Bool.false_and, Bool.and_self, wa, wb, htn, hx, hd, hj]; try rfl)))
        | (apply evd_guardU; (case hj | hu | hσ => (simp only [go_sem, Bool.and_false, Bool.false_and, Bool.and_self, wa, wb, htn, hx, hd, hj]; try rfl)))
        | (apply evd_skipT0; (case hj | hb | hσ => (simp only [go_sem, Bool.and_false, Bool.false_and, Bool.and_self, wa, wb, htn, hx, hd, hj]; try rfl)))
        | (apply evd_skipF0; (case hj | hb | hσ => (simp only [go_sem, Bool.and_false, Bool.false_and, Bool.and_self, wa, wb, htn, hx, hd, hj]; try rfl)))
        | (apply evd_skipT; (case hj | hb | hσ => (simp only [go_sem, Bool.and_false, Bool.false_and, Bool.and_self, wa, wb, htn, hx, hd, hj]; try rfl)))
        | (apply evd_skipF; (case hj | hb | hσ => (simp only [go_sem, Bool.and_false, Bool.false_and, Bool.and_self, wa, wb, htn, hx, hd, hj]; try rfl)))
        | (apply evd_guardT; (case hj | hb => (simp only [go_sem, Bool.and_false, Bool.false_and, Bool.and_self, wa, wb, htn, hx, hd, hj]; try rfl)); (case' h2 => (intro hb; first | (cases hb; done) | (simp only [hb]) | skip)); (case' h1 => (intro hb; first | (cases hb; done) | (simp only [hb]) | skip)))
        | (apply evd_guardF; (case hj | hb => (simp only [go_sem, Bool.and_false, Bool.false_and, Bool.and_self, wa, wb, htn, hx, hd, hj]; try rfl)); (case' h2 => (intro hb; first | (cases hb; done) | (simp only [hb]) | skip)); (case' h1 => (intro hb; first | (cases hb; done) | (simp only [hb]) | skip)))
        | (apply evd_call0; (case hi | hys => (simp only [go_sem, Bool.and_false, Bool.false_and, Bool.and_self, wa, wb, htn, hx, hd, hj]; try rfl)); (case hs => first | exact f9_spec .. | exact h10 .. | exact h110 .. | exact h111 .. | exact h12 .. | exact h26 ..); (case hok | hw | hσ => (simp only [go_sem, Bool.and_false, Bool.false_and, Bool.and_self, wa, wb, htn, hx, hd, hj]; try rfl)))
        | (apply evd_step0; (case hr | hi | hσ => (simp only [go_sem, Bool.and_false, Bool.false_and, Bool.and_self, wa, wb, htn, hx, hd, hj]; try rfl)); (case hc => (first | trivial | decide | (simp only [inB, sliceOk, appendOk, rowsOk]; omega) | (simp [inB, sliceOk, appendOk, rowsOk]; omega))))
        | (apply evd_step; (case hr | hi => (simp only [go_sem, Bool.and_false, Bool.false_and, Bool.and_self, wa, wb, htn, hx, hd, hj]; try rfl)); (case hc => (first | trivial | decide | (simp only [inB, sliceOk, appendOk, rowsOk]; omega) | (simp [inB, sliceOk, appendOk, rowsOk]; omega))); (case hw | hσ => (intro g u; simp only [go_sem, Bool.and_false, Bool.false_and, Bool.and_self, wa, wb, htn, hx, hd, hj]; try rfl)); (case' hk => (intro g u; (try clear u); (try clear g))))
        | fail))); (case hB => kernel_rfl))
    | (apply ev_step0; (case hr | hσ => (simp only [go_sem, Bool.and_false, Bool.false_and, Bool.and_self, wa, wb, htn, hx, hd, hj]; try rfl)); (case hc => (first | trivial | decide | (simp only [inB, sliceOk, appendOk, rowsOk]; omega) | (simp [inB, sliceOk, appendOk, rowsOk]; omega))))
    | (apply ev_step; (case hr => (simp only [go_sem, Bool.and_false, Bool.false_and, Bool.and_self, wa, wb, htn, hx, hd, hj]; try rfl)); (case hσ => (intro g u; simp only [go_sem, Bool.and_false, Bool.false_and, Bool.and_self, wa, wb, htn, hx, hd, hj]; try rfl)); (case hc => (first | trivial | decide | (simp only [inB, sliceOk, appendOk, rowsOk]; omega) | (simp [inB, sliceOk, appendOk, rowsOk]; omega))); intro g u; (try clear u); (try clear g))
    | fail
  rename_i g3 g4 g5 g8 g9 g10 u41 u63 v41 u65
  all_goals
    revert g; intro g13
    revert u; intro v65
    refine awp_loopI (fun i : Nat => i ≤ 2 ∧ i ≤ (ot.getD tn []).length) (fun i => 2 - i) (fun i => ⟨[.any, .any, .any, .any, .any, .ptr 5 g5 0, .any, litB true, .ptr 8 g8 0, .ptr 9 g9 0, .ptr 10 g10 0, litI .i64 (tn : Int), .own 41 v41, .ptr 13 g13 0, litI .i64 i, .any, .any, .any, .any, .any, .any, .any, .any, .any, .any, .any, .any, .any, .any, .any, .any, .any, .any, .any, .any, .any, .any, .any, .any, .any, .any, .any, .any, .any, .any, .any, .any, .any, .any, .any, .any, .any, .any, .any, .any, .any, .any, .any, .any, .any, .any, .any, .any, .any, .any, .any, .any, .any, .any, .any, .any, .any, .any, .any, .any, .any, .any, .any, .any, .any, .any, .any, .any, .any, .any, .any, .any, .any, .any, .any, .any, .any, .any, .any, .any, .any, .any, .any, .any, .any, .any, .any, .any, .any, .any, .any, .any, .any, .any, .any, .any, .any, .any, .any, .any, .any, .any, .any, .any, .any, .any, .any, .any, .any, .any, .any, .any, .any, .any, .any, .any, .any, .any, .any, .any, .any, .any, .any, .any, .any, .any, .any, .any, .any, .any, .any, .any, .any, .any, .any, .any, .any, .any, .any, .any, .any, .any, .any], [.no, .no, .no, .no, .no, .box g5 [litI .u8 ka, litI .u8 kb], .no, .no, .box g8 (schA s), .box g9 (stA old), .box g10 (stA ot), .no, .no, .box g13 [.own 65 v65], .no, .no, .no, .no, .no, .no, .no, .no, .no, .no, .no, .no, .no, .no, .no, .no, .no, .no, .no, .no, .no, .no, .no, .no, .no, .no, .no, .row v41 36 1 (al0.map fun st => [sttD st]), .no, .no, .no, .no, .no, .no, .no, .no, .no, .no, .no, .no, .no, .no, .no, .no, .no, .no, .no, .no, .no, .no, .no, .row v65 51 1 ((old.set tn (pa i)).map fun t => [rwsD t]), .no, .no, .no, .no, .no, .no, .no, .no, .no, .no, .no, .no, .no, .no, .no, .no, .no, .no, .no, .no, .no, .no, .no, .no, .no, .no, .no, .no, .no, .no, .no, .no, .no, .no, .no, .no, .no, .no, .no, .no, .no, .no, .no, .no, .no, .no, .no, .no, .no, .no, .no, .no, .no, .no, .no, .no, .no, .no, .no, .no, .no, .no, .no, .no, .no, .no, .no, .no, .no, .no, .no, .no, .no, .no, .no, .no, .no, .no, .no, .no, .no, .no, .no, .no, .no, .no, .no, .no, .no, .no, .no, .no]⟩) 0 ⟨by omega, by omega⟩ ?_ ?_
    · rw [hpa0, hsame, ← hal0]
      refine Wk.mk ?_ ?_
      all_goals (repeat' first | exact trivial | exact LeA.refl _ | exact LeA.any _ | exact LeO.refl _ | exact LeO.no _ | exact LeA.nil _ | exact LeA.nilOwn _ | exact LeO.nil _ _ _ | refine LeO.box ?_ | (refine LeA.i ?_; (first | rfl | (push_cast; rfl) | (rw [wrap_id (by omega)]; push_cast; omega) | (simp [wrap_id]; omega))) | refine ⟨?_, ?_⟩)
    rintro i ⟨hi, hil⟩
    simp only [litI, litB] at hi hil ⊢
    have hla : i < (ot.getD tn []).length → (old.set tn (pa i)).length = old.length := fun _ => List.length_set ..
    have hln : (old.set tn (pa i)).length = old.length := List.length_set ..
    have hnx := stt_at (old.set tn (pa i)) (i := tn) (by omega)
    rw [getD_set' (by omega), if_pos rfl] at hnx
    obtain ⟨m, hm, hm1⟩ : ∃ m : Nat, kb.tmod 2 = m ∧ m ≤ 1 := by
      have h1 := Int.tmod_nonneg 2 hkb.1
      have h2 := Int.tmod_lt_of_pos kb (b := 2) (by decide)
      exact ⟨(kb.tmod 2).toNat, by omega, by omega⟩
    have w2 : IntKind.i64.wrap (m : Int) = m := wrap_id (by omega)
    have w3 : IntKind.i64.wrap (1 + (m : Int)) = ((1 + m : Nat) : Int) := by rw [wrap_id (by omega)]; push_cast; rfl
    have hgo : ∀ (d1 d2 : Bool), (d1 && d2) = true ∨ (d1 && d2) = false := fun d1 d2 => by cases d1 && d2 <;> simp
    by_cases hc : i < (ot.getD tn []).length ∧ i < 1 + m
    · obtain ⟨hc1, hc2⟩ := hc
      have d1 : decide ((i : Int) < ((ot.getD tn []).length : Int)) = true := decide_eq_true (by omega)
      have d2 : decide ((i : Int) < ((1 + m : Nat) : Int)) = true := decide_eq_true (by omega)
      have hw := rws_at (ot.getD tn []) hc1
      have hrv := hrowsT _ (getD_mem' hc1 [])
      have hpi := hpaok i hi
      have h25 := f25_spec (pa i) (keyN s tn) ((ot.getD tn []).getD i []) (fun r hr => (hpi.1 r hr).ok.rw (by omega)) (hrv.ok.rw (by omega)) (by have := hpi.2.2; omega)
      rw [← hpaS i hc1] at h25
      have hss : ((old.set tn (pa i)).map fun t => [rwsD t]).set tn [rwsD (pa (i + 1))] = (old.set tn (pa (i + 1))).map fun t => [rwsD t] := by
        rw [List.map_set, List.map_set, List.set_set]
      generalize (ot.getD tn []).getD i [] = r at *
      generalize s.tables.getD tn tbN = tb at *
      have hkn' : ((tb.key : Nat) : Int) = ((keyN s tn : Nat) : Int) := by rw [hkn]
      repeat' first
        | refine awp_seq ?_
        | refine awp_block ?_
        | refine awp_skip ?_
        | (refine reg _ (by (simp only [List.map_cons, List.map_nil]; rfl)) rfl ?_; intro K hK)
        | (refine awp_cond _ (by rfl) ?_ ?_ <;> (intro hb; first | (cases hb; done) | (have ht : true = true := hb; clear ht hb) | (have ht : false = false := hb; clear ht hb) | (simp only [hb]) | skip))
        | (refine awp_exit ?_; simp only [thenA, blockA, scopeA, reduceIte, RetQ, Nat.reduceEqDiff])
        | (refine awp_ret ?_; simp only [thenA, blockA, scopeA, RetQ])
        | (refine ev_nil (hK _ ?_); clear hK K)
        | (apply ev_guardU; (case hj | hu | hσ => (simp only [go_sem, hy, hz, hm, w2, w3, d1, d2, hw, hnx, hss, hkn', hln]; try rfl)))
        | (refine ev_guardT _ _ (by (simp only [go_sem, hy, hz, hm, w2, w3, d1, d2, hw, hnx, hss, hkn', hln]; rfl)) (by (simp only [go_sem, hy, hz, hm, w2, w3, d1, d2, hw, hnx, hss, hkn', hln]; rfl)) ?_ ?_ <;> (intro hb; first | (cases hb; done) | (have ht : true = true := hb; clear ht hb) | (have ht : false = false := hb; clear ht hb) | (simp only [hb]) | skip))
        | (refine ev_guardF _ _ (by (simp only [go_sem, hy, hz, hm, w2, w3, d1, d2, hw, hnx, hss, hkn', hln]; rfl)) (by (simp only [go_sem, hy, hz, hm, w2, w3, d1, d2, hw, hnx, hss, hkn', hln]; rfl)) ?_ ?_ <;> (intro hb; first | (cases hb; done) | (have ht : true = true := hb; clear ht hb) | (have ht : false = false := hb; clear ht hb) | (simp only [hb]) | skip))
        | (apply ev_call0; (case hys => (simp only [go_sem, hy, hz, hm, w2, w3, d1, d2, hw, hnx, hss, hkn', hln]; try rfl)); (case hs => first | exact h25 ..); (case hok | hσ => (simp only [go_sem, hy, hz, hm, w2, w3, d1, d2, hw, hnx, hss, hkn', hln]; try rfl)))
        | (apply regD; (case hd => (simp only [List.map_cons, List.map_nil]; rfl)); (case hok => rfl); (case' h => (intro K hK; (repeat' first
        | (apply evd_nil; refine (hK _ ?_); clear hK K)
        | (apply evd_guardU0; (case hj | hu | hσ => (simp only [go_sem, hy, hz, hm, w2, w3, d1, d2, hw, hnx, hss, hkn', hln]; try rfl)))
        | (apply evd_guardU; (case hj | hu | hσ => (simp only [go_sem, hy, hz, hm, w2, w3, d1, d2, hw, hnx, hss, hkn', hln]; try rfl)))
        | (apply evd_skipT0; (case hj | hb | hσ => (simp only [go_sem, hy, hz, hm, w2, w3, d1, d2, hw, hnx, hss, hkn', hln]; try rfl)))
        | (apply evd_skipF0; (case hj | hb | hσ => (simp only [go_sem, hy, hz, hm, w2, w3, d1, d2, hw, hnx, hss, hkn', hln]; try rfl)))
        | (apply evd_skipT; (case hj | hb | hσ => (simp only [go_sem, hy, hz, hm, w2, w3, d1, d2, hw, hnx, hss, hkn', hln]; try rfl)))
        | (apply evd_skipF; (case hj | hb | hσ => (simp only [go_sem, hy, hz, hm, w2, w3, d1, d2, hw, hnx, hss, hkn', hln]; try rfl)))
        | (apply evd_guardT; (case hj | hb => (simp only [go_sem, hy, hz, hm, w2, w3, d1, d2, hw, hnx, hss, hkn', hln]; try rfl)); (case' h2 => (intro hb; first | (cases hb; done) | (simp only [hb]) | skip)); (case' h1 => (intro hb; first | (cases hb; done) | (simp only [hb]) | skip)))
        | (apply evd_guardF; (case hj | hb => (simp only [go_sem, hy, hz, hm, w2, w3, d1, d2, hw, hnx, hss, hkn', hln]; try rfl)); (case' h2 => (intro hb; first | (cases hb; done) | (simp only [hb]) | skip)); (case' h1 => (intro hb; first | (cases hb; done) | (simp only [hb]) | skip)))
        | (apply evd_call0; (case hi | hys => (simp only [go_sem, hy, hz, hm, w2, w3, d1, d2, hw, hnx, hss, hkn', hln]; try rfl)); (case hs => first | exact h25 ..); (case hok | hw | hσ => (simp only [go_sem, hy, hz, hm, w2, w3, d1, d2, hw, hnx, hss, hkn', hln]; try rfl)))
        | (apply evd_step0; (case hr | hi | hσ => (simp only [go_sem, hy, hz, hm, w2, w3, d1, d2, hw, hnx, hss, hkn', hln]; try rfl)); (case hc => (first | trivial | decide | (simp only [inB, sliceOk, appendOk, rowsOk]; omega) | (simp [inB, sliceOk, appendOk, rowsOk]; omega))))
        | (apply evd_step; (case hr | hi => (simp only [go_sem, hy, hz, hm, w2, w3, d1, d2, hw, hnx, hss, hkn', hln]; try rfl)); (case hc => (first | trivial | decide | (simp only [inB, sliceOk, appendOk, rowsOk]; omega) | (simp [inB, sliceOk, appendOk, rowsOk]; omega))); (case hw | hσ => (intro g u; simp only [go_sem, hy, hz, hm, w2, w3, d1, d2, hw, hnx, hss, hkn', hln]; try rfl)); (case' hk => (intro g u; (try clear u); (try clear g))))
        | fail))); (case hB => kernel_rfl))
        | (apply ev_step0; (case hr | hσ => (simp only [go_sem, hy, hz, hm, w2, w3, d1, d2, hw, hnx, hss, hkn', hln]; try rfl)); (case hc => (first | trivial | decide | (simp only [inB, sliceOk, appendOk, rowsOk]; omega) | (simp [inB, sliceOk, appendOk, rowsOk]; omega))))
        | (apply ev_step; (case hr => (simp only [go_sem, hy, hz, hm, w2, w3, d1, d2, hw, hnx, hss, hkn', hln]; try rfl)); (case hσ => (intro g u; simp only [go_sem, hy, hz, hm, w2, w3, d1, d2, hw, hnx, hss, hkn', hln]; try rfl)); (case hc => (first | trivial | decide | (simp only [inB, sliceOk, appendOk, rowsOk]; omega) | (simp [inB, sliceOk, appendOk, rowsOk]; omega))); intro g u; (try clear u); (try clear g))
        | fail
      refine Exists.intro (i + 1) ⟨⟨by omega, by omega⟩, by omega, ?_⟩
      refine Wk.mk ?_ ?_
      all_goals (repeat' first | exact trivial | exact LeA.refl _ | exact LeA.any _ | exact LeO.refl _ | exact LeO.no _ | exact LeA.nil _ | exact LeA.nilOwn _ | exact LeO.nil _ _ _ | refine LeO.box ?_ | (refine LeA.i ?_; (first | rfl | (push_cast; rfl) | (rw [wrap_id (by omega)]; push_cast; omega) | (simp [wrap_id]; omega))) | refine ⟨?_, ?_⟩)
    · have hnS' := hnS i hi
      have hss : (old.map fun t => [rwsD t]).set tn [rwsD (ot.getD tn [])] = (old.set tn (ot.getD tn [])).map fun t => [rwsD t] := by rw [List.map_set]
      generalize old.set tn (pa i) = near at *
      generalize old.set tn (ot.getD tn []) = mixed at *
      clear hpaS hpaok hnS hpa0 hsame hnx hrowsT hal0
      obtain ⟨al, hal⟩ : ∃ al : List Stt, al0 ++ [near, mixed] = al := ⟨_, rfl⟩
      have hS : ∀ x ∈ al, StS s x := fun x hx => by
        rw [← hal, List.mem_append] at hx
        rcases hx with hx | hx
        · exact hS0 x hx
        · simp only [List.mem_cons, List.not_mem_nil, or_false] at hx
          rcases hx with rfl | rfl
          · exact hnS'
          · exact hmx
      have hall : al.length ≤ 5 := by rw [← hal]; simp; omega
      have hrw : (al0.map fun st => [sttD st]) ++ [[sttD near], [sttD mixed]] = al.map fun st => [sttD st] := by rw [← hal]; simp
      by_cases hc1 : i < (ot.getD tn []).length
      have d1 : decide ((i : Int) < ((ot.getD tn []).length : Int)) = true := decide_eq_true (by omega)
      have d2 : decide ((i : Int) < ((1 + m : Nat) : Int)) = false := decide_eq_false (by omega)
      repeat' first
        | refine awp_seq ?_
        | refine awp_block ?_
        | refine awp_skip ?_
        | (refine reg _ (by (simp only [List.map_cons, List.map_nil]; rfl)) rfl ?_; intro K hK)
        | (refine awp_cond _ (by rfl) ?_ ?_ <;> (intro hb; first | (cases hb; done) | (have ht : true = true := hb; clear ht hb) | (have ht : false = false := hb; clear ht hb) | (simp only [hb]) | skip))
        | (refine awp_exit ?_; simp only [thenA, blockA, scopeA, reduceIte, RetQ, Nat.reduceEqDiff])
        | (refine awp_ret ?_; simp only [thenA, blockA, scopeA, RetQ])
        | (refine ev_nil (hK _ ?_); clear hK K)
        | (apply ev_guardU; (case hj | hu | hσ => (simp only [go_sem, hy, hx, hm, w2, w3, d1, d2, hss, hrw]; try rfl)))
        | (refine ev_guardT _ _ (by (simp only [go_sem, hy, hx, hm, w2, w3, d1, d2, hss, hrw]; rfl)) (by (simp only [go_sem, hy, hx, hm, w2, w3, d1, d2, hss, hrw]; rfl)) ?_ ?_ <;> (intro hb; first | (cases hb; done) | (have ht : true = true := hb; clear ht hb) | (have ht : false = false := hb; clear ht hb) | (simp only [hb]) | skip))
        | (refine ev_guardF _ _ (by (simp only [go_sem, hy, hx, hm, w2, w3, d1, d2, hss, hrw]; rfl)) (by (simp only [go_sem, hy, hx, hm, w2, w3, d1, d2, hss, hrw]; rfl)) ?_ ?_ <;> (intro hb; first | (cases hb; done) | (have ht : true = true := hb; clear ht hb) | (have ht : false = false := hb; clear ht hb) | (simp only [hb]) | skip))
        | (apply regD; (case hd => (simp only [List.map_cons, List.map_nil]; rfl)); (case hok => rfl); (case' h => (intro K hK; (repeat' first
        | (apply evd_nil; refine (hK _ ?_); clear hK K)
        | (apply evd_guardU0; (case hj | hu | hσ => (simp only [go_sem, hy, hx, hm, w2, w3, d1, d2, hss, hrw]; try rfl)))
        | (apply evd_guardU; (case hj | hu | hσ => (simp only [go_sem, hy, hx, hm, w2, w3, d1, d2, hss, hrw]; try rfl)))
        | (apply evd_skipT0; (case hj | hb | hσ => (simp only [go_sem, hy, hx, hm, w2, w3, d1, d2, hss, hrw]; try rfl)))
        | (apply evd_skipF0; (case hj | hb | hσ => (simp only [go_sem, hy, hx, hm, w2, w3, d1, d2, hss, hrw]; try rfl)))
        | (apply evd_skipT; (case hj | hb | hσ => (simp only [go_sem, hy, hx, hm, w2, w3, d1, d2, hss, hrw]; try rfl)))
        | (apply evd_skipF; (case hj | hb | hσ => (simp only [go_sem, hy, hx, hm, w2, w3, d1, d2, hss, hrw]; try rfl)))
        | (apply evd_guardT; (case hj | hb => (simp only [go_sem, hy, hx, hm, w2, w3, d1, d2, hss, hrw]; try rfl)); (case' h2 => (intro hb; first | (cases hb; done) | (simp only [hb]) | skip)); (case' h1 => (intro hb; first | (cases hb; done) | (simp only [hb]) | skip)))
        | (apply evd_guardF; (case hj | hb => (simp only [go_sem, hy, hx, hm, w2, w3, d1, d2, hss, hrw]; try rfl)); (case' h2 => (intro hb; first | (cases hb; done) | (simp only [hb]) | skip)); (case' h1 => (intro hb; first | (cases hb; done) | (simp only [hb]) | skip)))
        | (apply evd_step0; (case hr | hi | hσ => (simp only [go_sem, hy, hx, hm, w2, w3, d1, d2, hss, hrw]; try rfl)); (case hc => (first | trivial | decide | (simp only [inB, sliceOk, appendOk, rowsOk]; omega) | (simp [inB, sliceOk, appendOk, rowsOk]; omega))))
        | (apply evd_step; (case hr | hi => (simp only [go_sem, hy, hx, hm, w2, w3, d1, d2, hss, hrw]; try rfl)); (case hc => (first | trivial | decide | (simp only [inB, sliceOk, appendOk, rowsOk]; omega) | (simp [inB, sliceOk, appendOk, rowsOk]; omega))); (case hw | hσ => (intro g u; simp only [go_sem, hy, hx, hm, w2, w3, d1, d2, hss, hrw]; try rfl)); (case' hk => (intro g u; (try clear u); (try clear g))))
        | fail))); (case hB => kernel_rfl))
        | (apply ev_step0; (case hr | hσ => (simp only [go_sem, hy, hx, hm, w2, w3, d1, d2, hss, hrw]; try rfl)); (case hc => (first | trivial | decide | (simp only [inB, sliceOk, appendOk, rowsOk]; omega) | (simp [inB, sliceOk, appendOk, rowsOk]; omega))))
        | (apply ev_step; (case hr => (simp only [go_sem, hy, hx, hm, w2, w3, d1, d2, hss, hrw]; try rfl)); (case hσ => (intro g u; simp only [go_sem, hy, hx, hm, w2, w3, d1, d2, hss, hrw]; try rfl)); (case hc => (first | trivial | decide | (simp only [inB, sliceOk, appendOk, rowsOk]; omega) | (simp [inB, sliceOk, appendOk, rowsOk]; omega))); intro g u; (try clear u); (try clear g))
        | fail
      rotate_left
      have d1 : decide ((i : Int) < ((ot.getD tn []).length : Int)) = false := decide_eq_false (by omega)
      repeat' first
        | refine awp_seq ?_
        | refine awp_block ?_
        | refine awp_skip ?_
        | (refine reg _ (by (simp only [List.map_cons, List.map_nil]; rfl)) rfl ?_; intro K hK)
        | (refine awp_cond _ (by rfl) ?_ ?_ <;> (intro hb; first | (cases hb; done) | (have ht : true = true := hb; clear ht hb) | (have ht : false = false := hb; clear ht hb) | (simp only [hb]) | skip))
        | (refine awp_exit ?_; simp only [thenA, blockA, scopeA, reduceIte, RetQ, Nat.reduceEqDiff])
        | (refine awp_ret ?_; simp only [thenA, blockA, scopeA, RetQ])
        | (refine ev_nil (hK _ ?_); clear hK K)
        | (apply ev_guardU; (case hj | hu | hσ => (simp only [go_sem, hy, hx, hm, w2, w3, d1, hss, hrw]; try rfl)))
        | (refine ev_guardT _ _ (by (simp only [go_sem, hy, hx, hm, w2, w3, d1, hss, hrw]; rfl)) (by (simp only [go_sem, hy, hx, hm, w2, w3, d1, hss, hrw]; rfl)) ?_ ?_ <;> (intro hb; first | (cases hb; done) | (have ht : true = true := hb; clear ht hb) | (have ht : false = false := hb; clear ht hb) | (simp only [hb]) | skip))
        | (refine ev_guardF _ _ (by (simp only [go_sem, hy, hx, hm, w2, w3, d1, hss, hrw]; rfl)) (by (simp only [go_sem, hy, hx, hm, w2, w3, d1, hss, hrw]; rfl)) ?_ ?_ <;> (intro hb; first | (cases hb; done) | (have ht : true = true := hb; clear ht hb) | (have ht : false = false := hb; clear ht hb) | (simp only [hb]) | skip))
        | (apply regD; (case hd => (simp only [List.map_cons, List.map_nil]; rfl)); (case hok => rfl); (case' h => (intro K hK; (repeat' first
        | (apply evd_nil; refine (hK _ ?_); clear hK K)
        | (apply evd_guardU0; (case hj | hu | hσ => (simp only [go_sem, hy, hx, hm, w2, w3, d1, hss, hrw]; try rfl)))
        | (apply evd_guardU; (case hj | hu | hσ => (simp only [go_sem, hy, hx, hm, w2, w3, d1, hss, hrw]; try rfl)))
        | (apply evd_skipT0; (case hj | hb | hσ => (simp only [go_sem, hy, hx, hm, w2, w3, d1, hss, hrw]; try rfl)))
        | (apply evd_skipF0; (case hj | hb | hσ => (simp only [go_sem, hy, hx, hm, w2, w3, d1, hss, hrw]; try rfl)))
        | (apply evd_skipT; (case hj | hb | hσ => (simp only [go_sem, hy, hx, hm, w2, w3, d1, hss, hrw]; try rfl)))
        | (apply evd_skipF; (case hj | hb | hσ => (simp only [go_sem, hy, hx, hm, w2, w3, d1, hss, hrw]; try rfl)))
        | (apply evd_guardT; (case hj | hb => (simp only [go_sem, hy, hx, hm, w2, w3, d1, hss, hrw]; try rfl)); (case' h2 => (intro hb; first | (cases hb; done) | (simp only [hb]) | skip)); (case' h1 => (intro hb; first | (cases hb; done) | (simp only [hb]) | skip)))
        | (apply evd_guardF; (case hj | hb => (simp only [go_sem, hy, hx, hm, w2, w3, d1, hss, hrw]; try rfl)); (case' h2 => (intro hb; first | (cases hb; done) | (simp only [hb]) | skip)); (case' h1 => (intro hb; first | (cases hb; done) | (simp only [hb]) | skip)))
        | (apply evd_step0; (case hr | hi | hσ => (simp only [go_sem, hy, hx, hm, w2, w3, d1, hss, hrw]; try rfl)); (case hc => (first | trivial | decide | (simp only [inB, sliceOk, appendOk, rowsOk]; omega) | (simp [inB, sliceOk, appendOk, rowsOk]; omega))))
        | (apply evd_step; (case hr | hi => (simp only [go_sem, hy, hx, hm, w2, w3, d1, hss, hrw]; try rfl)); (case hc => (first | trivial | decide | (simp only [inB, sliceOk, appendOk, rowsOk]; omega) | (simp [inB, sliceOk, appendOk, rowsOk]; omega))); (case hw | hσ => (intro g u; simp only [go_sem, hy, hx, hm, w2, w3, d1, hss, hrw]; try rfl)); (case' hk => (intro g u; (try clear u); (try clear g))))
        | fail))); (case hB => kernel_rfl))
        | (apply ev_step0; (case hr | hσ => (simp only [go_sem, hy, hx, hm, w2, w3, d1, hss, hrw]; try rfl)); (case hc => (first | trivial | decide | (simp only [inB, sliceOk, appendOk, rowsOk]; omega) | (simp [inB, sliceOk, appendOk, rowsOk]; omega))))
        | (apply ev_step; (case hr => (simp only [go_sem, hy, hx, hm, w2, w3, d1, hss, hrw]; try rfl)); (case hσ => (intro g u; simp only [go_sem, hy, hx, hm, w2, w3, d1, hss, hrw]; try rfl)); (case hc => (first | trivial | decide | (simp only [inB, sliceOk, appendOk, rowsOk]; omega) | (simp [inB, sliceOk, appendOk, rowsOk]; omega))); intro g u; (try clear u); (try clear g))
        | fail
      all_goals
        refine awp_loopI (fun k : Nat => k ≤ al.length) (fun k => al.length - k) (fun k => ⟨[.any, .any, .any, .any, .any, .any, .any, litB true, .ptr 8 g8 0, .ptr 9 g9 0, .any, .any, .own 41 u, .any, .any, .any, litI .i64 k, .any, .any, .any, .any, .any, .any, .any, .any, .any, .any, .any, .any, .any, .any, .any, .any, .any, .any, .any, .any, .any, .any, .any, .any, .any, .any, .any, .any, .any, .any, .any, .any, .any, .any, .any, .any, .any, .any, .any, .any, .any, .any, .any, .any, .any, .any, .any, .any, .any, .any, .any, .any, .any, .any, .any, .any, .any, .any, .any, .any, .any, .any, .any, .any, .any, .any, .any, .any, .any, .any, .any, .any, .any, .any, .any, .any, .any, .any, .any, .any, .any, .any, .any, .any, .any, .any, .any, .any, .any, .any, .any, .any, .any, .any, .any, .any, .any, .any, .any, .any, .any, .any, .any, .any, .any, .any, .any, .any, .any, .any, .any, .any, .any, .any, .any, .any, .any, .any, .any, .any, .any, .any, .any, .any, .any, .any, .any, .any, .any, .any, .any, .any, .any, .any, .any, .any, .any, .any, .any, .any, .any], [.no, .no, .no, .no, .no, .no, .no, .no, .box g8 (schA s), .box g9 (stA old), .no, .no, .no, .no, .no, .no, .no, .no, .no, .no, .no, .no, .no, .no, .no, .no, .no, .no, .no, .no, .no, .no, .no, .no, .no, .no, .no, .no, .no, .no, .no, .row u 36 1 (al.map fun st => [sttD st]), .no, .no, .no, .no, .no, .no, .no, .no, .no, .no, .no, .no, .no, .no, .no, .no, .no, .no, .no, .no, .no, .no, .no, .no, .no, .no, .no, .no, .no, .no, .no, .no, .no, .no, .no, .no, .no, .no, .no, .no, .no, .no, .no, .no, .no, .no, .no, .no, .no, .no, .no, .no, .no, .no, .no, .no, .no, .no, .no, .no, .no, .no, .no, .no, .no, .no, .no, .no, .no, .no, .no, .no, .no, .no, .no, .no, .no, .no, .no, .no, .no, .no, .no, .no, .no, .no, .no, .no, .no, .no, .no, .no, .no, .no, .no, .no, .no, .no, .no, .no, .no, .no, .no, .no, .no, .no, .no, .no, .no, .no, .no, .no, .no, .no, .no, .no]⟩) 0 (by omega) ?_ ?_
        · refine Wk.mk ?_ ?_
          all_goals (repeat' first | exact trivial | exact LeA.refl _ | exact LeA.any _ | exact LeO.refl _ | exact LeO.no _ | exact LeA.nil _ | exact LeA.nilOwn _ | exact LeO.nil _ _ _ | refine LeO.box ?_ | (refine LeA.i ?_; (first | rfl | (push_cast; rfl) | (rw [wrap_id (by omega)]; push_cast; omega) | (simp [wrap_id]; omega))) | refine ⟨?_, ?_⟩)
        intro k hk
        simp only [litI, litB] at hk ⊢
        by_cases h4 : k < al.length
        · have d4 : decide ((k : Int) < (al.length : Int)) = true := decide_eq_true (by omega)
          have hy := all_at al h4
          have hSx := hS _ (getD_mem' h4 [])
          have c24k := c24 _ hSx
          have c17k := c17 _ hSx
          rw [hkeep _ hSx] at c24k
          generalize al.getD k [] = x at *
          generalize holdsM s x = q at *
          generalize holdsM s old = hv at *
          cases hv
          all_goals
            (try rw [Bool.false_and] at c24k)
            (try rw [Bool.true_and] at c24k)
            repeat' first
              | refine awp_seq ?_
              | refine awp_block ?_
              | refine awp_skip ?_
              | (refine reg _ (by (simp only [List.map_cons, List.map_nil]; rfl)) rfl ?_; intro K hK)
              | (refine awp_cond _ (by rfl) ?_ ?_ <;> (intro hb; first | (cases hb; done) | (have ht : true = true := hb; clear ht hb) | (have ht : false = false := hb; clear ht hb) | (simp only [hb]) | skip))
              | (refine awp_exit ?_; simp only [thenA, blockA, scopeA, reduceIte, RetQ, Nat.reduceEqDiff])
              | (refine awp_ret ?_; simp only [thenA, blockA, scopeA, RetQ])
              | (refine ev_nil (hK _ ?_); clear hK K)
              | (apply ev_guardU; (case hj | hu | hσ => (simp only [go_sem, d4, hy, beq_self_eq_true]; try rfl)))
              | (refine ev_guardT _ _ (by (simp only [go_sem, d4, hy, beq_self_eq_true]; rfl)) (by (simp only [go_sem, d4, hy, beq_self_eq_true]; rfl)) ?_ ?_ <;> (intro hb; first | (cases hb; done) | (have ht : true = true := hb; clear ht hb) | (have ht : false = false := hb; clear ht hb) | (simp only [hb]) | skip))
              | (refine ev_guardF _ _ (by (simp only [go_sem, d4, hy, beq_self_eq_true]; rfl)) (by (simp only [go_sem, d4, hy, beq_self_eq_true]; rfl)) ?_ ?_ <;> (intro hb; first | (cases hb; done) | (have ht : true = true := hb; clear ht hb) | (have ht : false = false := hb; clear ht hb) | (simp only [hb]) | skip))
              | (apply ev_call0; (case hys => (simp only [go_sem, d4, hy, beq_self_eq_true]; try rfl)); (case hs => first | exact c24k .. | exact c17k .. | exact c17o ..); (case hok | hσ => (simp only [go_sem, d4, hy, beq_self_eq_true]; try rfl)))
              | (apply regD; (case hd => (simp only [List.map_cons, List.map_nil]; rfl)); (case hok => rfl); (case' h => (intro K hK; (repeat' first
        | (apply evd_nil; refine (hK _ ?_); clear hK K)
        | (apply evd_guardU0; (case hj | hu | hσ => (simp only [go_sem, d4, hy, beq_self_eq_true]; try rfl)))
        | (apply evd_guardU; (case hj | hu | hσ => (simp only [go_sem, d4, hy, beq_self_eq_true]; try rfl)))
        | (apply evd_skipT0; (case hj | hb | hσ => (simp only [go_sem, d4, hy, beq_self_eq_true]; try rfl)))
        | (apply evd_skipF0; (case hj | hb | hσ => (simp only [go_sem, d4, hy, beq_self_eq_true]; try rfl)))
        | (apply evd_skipT; (case hj | hb | hσ => (simp only [go_sem, d4, hy, beq_self_eq_true]; try rfl)))
        | (apply evd_skipF; (case hj | hb | hσ => (simp only [go_sem, d4, hy, beq_self_eq_true]; try rfl)))
        | (apply evd_guardT; (case hj | hb => (simp only [go_sem, d4, hy, beq_self_eq_true]; try rfl)); (case' h2 => (intro hb; first | (cases hb; done) | (simp only [hb]) | skip)); (case' h1 => (intro hb; first | (cases hb; done) | (simp only [hb]) | skip)))
        | (apply evd_guardF; (case hj | hb => (simp only [go_sem, d4, hy, beq_self_eq_true]; try rfl)); (case' h2 => (intro hb; first | (cases hb; done) | (simp only [hb]) | skip)); (case' h1 => (intro hb; first | (cases hb; done) | (simp only [hb]) | skip)))
        | (apply evd_call0; (case hi | hys => (simp only [go_sem, d4, hy, beq_self_eq_true]; try rfl)); (case hs => first | exact c24k .. | exact c17k .. | exact c17o ..); (case hok | hw | hσ => (simp only [go_sem, d4, hy, beq_self_eq_true]; try rfl)))
        | (apply evd_step0; (case hr | hi | hσ => (simp only [go_sem, d4, hy, beq_self_eq_true]; try rfl)); (case hc => (first | trivial | decide | (simp only [inB, sliceOk, appendOk, rowsOk]; omega) | (simp [inB, sliceOk, appendOk, rowsOk]; omega))))
        | (apply evd_step; (case hr | hi => (simp only [go_sem, d4, hy, beq_self_eq_true]; try rfl)); (case hc => (first | trivial | decide | (simp only [inB, sliceOk, appendOk, rowsOk]; omega) | (simp [inB, sliceOk, appendOk, rowsOk]; omega))); (case hw | hσ => (intro g u; simp only [go_sem, d4, hy, beq_self_eq_true]; try rfl)); (case' hk => (intro g u; (try clear u); (try clear g))))
        | fail))); (case hB => kernel_rfl))
              | (apply ev_step0; (case hr | hσ => (simp only [go_sem, d4, hy, beq_self_eq_true]; try rfl)); (case hc => (first | trivial | decide | (simp only [inB, sliceOk, appendOk, rowsOk]; omega) | (simp [inB, sliceOk, appendOk, rowsOk]; omega))))
              | (apply ev_step; (case hr => (simp only [go_sem, d4, hy, beq_self_eq_true]; try rfl)); (case hσ => (intro g u; simp only [go_sem, d4, hy, beq_self_eq_true]; try rfl)); (case hc => (first | trivial | decide | (simp only [inB, sliceOk, appendOk, rowsOk]; omega) | (simp [inB, sliceOk, appendOk, rowsOk]; omega))); intro g u; (try clear u); (try clear g))
              | fail
            refine Exists.intro (k + 1) ⟨by omega, by omega, ?_⟩
            refine Wk.mk ?_ ?_
            all_goals (repeat' first | exact trivial | exact LeA.refl _ | exact LeA.any _ | exact LeO.refl _ | exact LeO.no _ | exact LeA.nil _ | exact LeA.nilOwn _ | exact LeO.nil _ _ _ | refine LeO.box ?_ | (refine LeA.i ?_; (first | rfl | (push_cast; rfl) | (rw [wrap_id (by omega)]; push_cast; omega) | (simp [wrap_id]; omega))) | refine ⟨?_, ?_⟩)
        · have d4 : decide ((k : Int) < (al.length : Int)) = false := decide_eq_false (by omega)
          repeat' first
            | refine awp_seq ?_
            | refine awp_block ?_
            | refine awp_skip ?_
            | (refine reg _ (by (simp only [List.map_cons, List.map_nil]; rfl)) rfl ?_; intro K hK)
            | (refine awp_cond _ (by rfl) ?_ ?_ <;> (intro hb; first | (cases hb; done) | (have ht : true = true := hb; clear ht hb) | (have ht : false = false := hb; clear ht hb) | (simp only [hb]) | skip))
            | (refine awp_exit ?_; simp only [thenA, blockA, scopeA, reduceIte, RetQ, Nat.reduceEqDiff])
            | (refine awp_ret ?_; simp only [thenA, blockA, scopeA, RetQ])
            | (refine ev_nil (hK _ ?_); clear hK K)
            | (apply ev_guardU; (case hj | hu | hσ => (simp only [go_sem, d4]; try rfl)))
            | (refine ev_guardT _ _ (by (simp only [go_sem, d4]; rfl)) (by (simp only [go_sem, d4]; rfl)) ?_ ?_ <;> (intro hb; first | (cases hb; done) | (have ht : true = true := hb; clear ht hb) | (have ht : false = false := hb; clear ht hb) | (simp only [hb]) | skip))
            | (refine ev_guardF _ _ (by (simp only [go_sem, d4]; rfl)) (by (simp only [go_sem, d4]; rfl)) ?_ ?_ <;> (intro hb; first | (cases hb; done) | (have ht : true = true := hb; clear ht hb) | (have ht : false = false := hb; clear ht hb) | (simp only [hb]) | skip))
            | (apply regD; (case hd => (simp only [List.map_cons, List.map_nil]; rfl)); (case hok => rfl); (case' h => (intro K hK; (repeat' first
        | (apply evd_nil; refine (hK _ ?_); clear hK K)
        | (apply evd_guardU0; (case hj | hu | hσ => (simp only [go_sem, d4]; try rfl)))
        | (apply evd_guardU; (case hj | hu | hσ => (simp only [go_sem, d4]; try rfl)))
        | (apply evd_skipT0; (case hj | hb | hσ => (simp only [go_sem, d4]; try rfl)))
        | (apply evd_skipF0; (case hj | hb | hσ => (simp only [go_sem, d4]; try rfl)))
        | (apply evd_skipT; (case hj | hb | hσ => (simp only [go_sem, d4]; try rfl)))
        | (apply evd_skipF; (case hj | hb | hσ => (simp only [go_sem, d4]; try rfl)))
        | (apply evd_guardT; (case hj | hb => (simp only [go_sem, d4]; try rfl)); (case' h2 => (intro hb; first | (cases hb; done) | (simp only [hb]) | skip)); (case' h1 => (intro hb; first | (cases hb; done) | (simp only [hb]) | skip)))
        | (apply evd_guardF; (case hj | hb => (simp only [go_sem, d4]; try rfl)); (case' h2 => (intro hb; first | (cases hb; done) | (simp only [hb]) | skip)); (case' h1 => (intro hb; first | (cases hb; done) | (simp only [hb]) | skip)))
        | (apply evd_step0; (case hr | hi | hσ => (simp only [go_sem, d4]; try rfl)); (case hc => (first | trivial | decide | (simp only [inB, sliceOk, appendOk, rowsOk]; omega) | (simp [inB, sliceOk, appendOk, rowsOk]; omega))))
        | (apply evd_step; (case hr | hi => (simp only [go_sem, d4]; try rfl)); (case hc => (first | trivial | decide | (simp only [inB, sliceOk, appendOk, rowsOk]; omega) | (simp [inB, sliceOk, appendOk, rowsOk]; omega))); (case hw | hσ => (intro g u; simp only [go_sem, d4]; try rfl)); (case' hk => (intro g u; (try clear u); (try clear g))))
        | fail))); (case hB => kernel_rfl))
            | (apply ev_step0; (case hr | hσ => (simp only [go_sem, d4]; try rfl)); (case hc => (first | trivial | decide | (simp only [inB, sliceOk, appendOk, rowsOk]; omega) | (simp [inB, sliceOk, appendOk, rowsOk]; omega))))
            | (apply ev_step; (case hr => (simp only [go_sem, d4]; try rfl)); (case hσ => (intro g u; simp only [go_sem, d4]; try rfl)); (case hc => (first | trivial | decide | (simp only [inB, sliceOk, appendOk, rowsOk]; omega) | (simp [inB, sliceOk, appendOk, rowsOk]; omega))); intro g u; (try clear u); (try clear g))
            | fail
          all_goals (refine resR_one T_ok rfl _ (by (simp only [go_sem, resA]; rfl)) (by first | trivial | (simp only [go_sem, resA])) (by first | trivial | (simp only [go_sem])) ?_; simp only [go_sem])
          exact LeA.refl _
end
section
set_option linter.unusedVariables false
set_option linter.unusedSimpArgs false
/-- The law, for whatever reads as its arguments. -/
theorem law7_spec : ∀ dss, tyRs T 8 [24, 25, 81] dss → Spec Try.prog 7 (avTys T [24, 25, 81] dss) (.d (.lit (.bool true))) := by
  intro dss h
  obtain ⟨d0, r0, rfl, h0, h⟩ := tyRs_one h
  obtain ⟨d1, r1, rfl, h1, h⟩ := tyRs_one h
  obtain ⟨d2, r2, rfl, h2, h⟩ := tyRs_one h
  obtain rfl := tyRs_nil h
  obtain ⟨b, rfl, hb⟩ := ty24 h0
  obtain ⟨b0, b1, rfl, hb0, hb1⟩ := ty25 h1
  obtain ⟨ka, kb, rfl, hka, hkb⟩ := ty81 h2
  have := f7_spec b b0 b1 ka kb hb hb0 hb1 hka hkb
  simp only [avTys, avTy, T24, ti24, T25, ti25, T81, ti81, List.map_cons, List.map_nil, if_true]
  exact this
end
end Go.Proofs.Ytlkfbhhopkoopaa.A
