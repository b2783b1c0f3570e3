/- Plain: deleting a row. Data of the arguments' types. ConstraintRows: the walk. The law ConstraintRows. -/
import Derived.Test.YtlkfbhhopkoopaaY5
import Derived.Test.YtlkfbhhopkoopaaR2
namespace Go.Proofs.Ytlkfbhhopkoopaa.A
attribute [local go_sem] Nat.reduceAdd Nat.reduceSub Nat.reduceMul Nat.reduceLT Nat.reduceLeDiff Nat.reduceEqDiff Nat.reduceBEq reduceIte reduceCtorEq e_step_none e_slotU e_slotB e_move e_assign e_pick e_unOp e_binOp e_alloc e_box e_build e_buildSlice e_load e_store e_fieldAddr e_field e_indexAddr e_index e_slice e_makeSlice e_makeFunc e_convert e_extract e_nilCheck e_len e_append e_max e_min e_call e_callV e_fn e_cap_ptr e_cap_lit e_cap_sl e_cap_fn e_fnOf_clo e_fnOf_fn e_flat_fn e_clo e_ev_tmp e_ev_int e_ev_bool e_ev_string e_ev_slice e_ev_nilFunc e_ev_nilIface e_ev_pointer e_ev_agg e_ev_func e_pickT e_pickF e_not e_neg e_add e_sub e_mul e_quo e_rem e_eql e_neq e_lss e_leq e_gtr e_geq e_shl e_shr e_and e_or e_xor e_andNot e_beq e_bne e_sadd e_seql e_sneq e_b2_d e_b2_nil e_b2_nnil e_b2_agg e_lits_nil e_lits_cons e_litC e_eqR e_eqO_e e_eqO_n e_eqV4 e_eqV3 e_eqV2 e_eqV1 e_eqFs_nil e_eqFs_cons e_and2 e_eq1 e_eqL_i e_eqL_s e_eqL_b e_allocR e_boxR e_box_agg e_box_d e_box_own e_box_clo e_one_nil e_one_d e_one_own e_one_clo e_one_ptr e_cells_agg e_cells_d e_cells_own e_cells_clo e_cells_ptr e_ob_own e_ob_ptr e_ob_elo e_ob_d e_ob_el e_ob_agg e_load_box e_load_fzb e_load_el e_load_elo e_storeX_ptr e_storeX_d e_storeX_own e_storeX_agg e_storeX_el e_storeC' e_notIn_nil e_notIn_cons e_store_box e_storeB e_store_elo e_store_elo_agg e_storeE e_fa_ptr e_fa_el e_fa_elo e_faR e_fd e_fdR e_ia_d e_ia_row e_ia_fz e_ia_ptr e_ia_el e_ix_s e_ix_a e_len_s e_len_nil e_len_d e_len_row e_len_fz e_conv_i e_conv_s e_extr e_maxR e_minR e_nil_ptr e_nil_el e_nil_elo e_rows_nil e_rows_d e_rows_row e_rows_fz e_rok_nil e_rok_d e_rok_row e_rok_fz e_app_row e_appR e_app_nil e_appN e_make e_bnd_none e_bnd_some e_optmap_none e_optmap_some e_slR e_slRe e_sl_s e_sl_d e_sl_nil e_sl_row e_sl_fz e_fill_nil e_fill_cons e_fill1 e_placeS e_plS e_placeE e_buildO e_build1 e_build2 e_build3 e_bindD e_bs e_bsR e_allD_nil e_allD_cons e_allD_el e_allD_clo e_allD2 e_allD1 e_chunk0 e_chunkS e_clP_nil e_clP_cons e_cl_d e_cl_any e_cl_el e_cl_agg e_cl_tup e_cl_clo e_cl_own e_clOwn_row e_clOwn_fz e_cl_ptr e_clPtr_box e_clBox e_clPtr_fzb e_clL_nil e_clL_cons e_ok_d e_ok_any e_ok_el e_ok_agg e_ok_tup e_ok_clo e_ok_own e_okOwn_row e_okOwn_fz e_ok_ptr e_okPtr_box e_okPtr_fzb e_okL_nil e_okL_cons e_ids_d e_ids_any e_ids_el e_ids_own e_ids_ptr e_ids_agg e_ids_tup e_ids_clo e_idsL_nil e_idsL_cons e_frz_nil e_frz_cons e_frz_row e_frz_fz e_frz_fzb e_frz_box e_frzB e_flat_lit e_flat_sl e_flat_agg e_flat_tup e_flat_any e_flat_clo e_flatL_nil e_flatL_cons e_new_lit e_new_agg e_new_tup e_new_own e_newOwn_row e_newL_nil e_newL_cons e_objD e_setMany e_takeA e_zerosA e_gdL e_idsG e_idsOp e_callV' e_callN' e_callF' e_o_move e_o_assign e_o_pick e_o_unOp e_o_binOp e_o_alloc e_o_box e_o_build e_o_buildSlice e_o_load e_o_store e_o_fieldAddr e_o_field e_o_indexAddr e_o_index e_o_slice0 e_o_slice1 e_o_slice2 e_o_slice3 e_o_makeSlice e_o_makeFunc e_o_convert e_o_extract e_o_nilCheck e_o_bcall e_o_vcall litI litB litS
attribute [local go_sem] List.map_cons List.map_nil List.getD_cons_zero List.getD_cons_succ List.getD_nil List.getElem?_cons_zero List.getElem?_cons_succ List.getElem?_nil Option.getD_some Option.getD_none Option.map_some Option.map_none List.length_cons List.length_nil List.all_cons List.all_nil Bool.and_true Bool.true_and and_true true_and and_self List.take_zero List.take_succ_cons List.drop_zero List.drop_succ_cons List.nil_append List.cons_append List.append_nil List.replicate_succ List.replicate_zero List.flatten_cons List.flatten_nil Nat.zero_add Nat.add_zero Nat.mul_one Nat.zero_mul Nat.one_mul Nat.mul_zero List.set_cons_zero List.set_cons_succ List.foldl_cons List.foldl_nil appendOk rowsOk inB sliceOk cutRows mtake mdrop List.length_append List.length_take List.length_drop if_true if_false or_false or_true true_or Bool.not_true Bool.not_false Bool.false_eq_true List.length_map Int.toNat_natCast Int.toNat_zero Int.toNat_one eq_self St.after St.put applyEff R0 T1 T2 T3 T4 T5 T9 T15 T22 T24 T25 T26 T28 T29 T30 T32 T34 T36 T39 T42 T44 T47 T49 T51 T52 T54 T55 T57 T58 T60 T64 T68 T70 T72 T74 T76 T81 T83 T87 T90 T94 T97 T102 T113 T116 T119 T131 T134 T143 T145 T149 T151 T154 ti1 ti2 ti3 ti4 ti5 ti9 ti15 ti22 ti24 ti25 ti26 ti28 ti29 ti30 ti32 ti34 ti36 ti39 ti42 ti44 ti47 ti49 ti51 ti52 ti54 ti55 ti57 ti58 ti60 ti64 ti68 ti70 ti72 ti74 ti76 ti81 ti83 ti87 ti90 ti94 ti97 ti102 ti113 ti116 ti119 ti131 ti134 ti143 ti145 ti149 ti151 ti154
section
set_option linter.unusedVariables false
set_option linter.unusedSimpArgs false
open Go.RowKit
theorem mend_refs {s : Sch} (h : SchOk s) : ∀ (n : Nat) {st : Stt}, StV s st → cnt st < n → bkRefs s (mendM s n st) s.refs 0 = []
  | 0, st, _, hc => by omega
  | n + 1, st, hs, hc => by
    rw [mendM]
    have hkey : ∀ {x : Bk} {l : List Bk}, checkR s st = x :: l → x.1 < 0 → bkRefs s st s.refs 0 = [] := fun {x l} hch hx => by
      cases hb : bkRefs s st s.refs 0 with
      | nil => rfl
      | cons y l' =>
        rw [checkR, hb, List.cons_append] at hch
        injection hch with e1 _
        have hm : y ∈ bkRefs s st s.refs 0 := by rw [hb]; exact List.mem_cons_self ..
        obtain ⟨k, _, j, _, e, _⟩ := bkRefs_mem hm
        rw [← e1, e] at hx
        simp at hx; omega
    cases hch : checkR s st with
    | nil =>
      simp only
      rw [checkR, List.append_eq_nil_iff] at hch; exact hch.1
    | cons x l =>
      by_cases hx : x.1 < 0
      · simp only [if_pos hx]; exact hkey hch hx
      · simp only [if_neg hx]
        obtain ⟨k, hk, j, hj, rfl⟩ := check_head hch hx
        have hr := (h.refs _ (getD_mem' hk rfN)).1
        simp only [Int.toNat_natCast]
        have := cnt_without hs hr hj
        exact mend_refs h n (hs.without hr j) (by omega)
theorem without_mem {l : List Rw} {i : Nat} {x : Rw} : x ∈ l.take i ++ l.drop (i + 1) ↔ ∃ j, j ≠ i ∧ ∃ h : j < l.length, l[j] = x := by
  rw [List.mem_append]
  constructor
  · rintro (h | h)
    · obtain ⟨j, hj, e⟩ := List.getElem_of_mem h
      rw [List.length_take] at hj
      rw [List.getElem_take] at e
      exact ⟨j, by omega, by omega, e⟩
    · obtain ⟨j, hj, e⟩ := List.getElem_of_mem h
      rw [List.length_drop] at hj
      rw [List.getElem_drop] at e
      exact ⟨i + 1 + j, by omega, by omega, e⟩
  · rintro ⟨j, hji, hj, e⟩
    rcases Nat.lt_or_ge j i with hlt | hge
    · left
      rw [← e]
      have hjt : j < (l.take i).length := by rw [List.length_take]; omega
      rw [show l[j] = (l.take i)[j] from by rw [List.getElem_take]]
      exact List.getElem_mem hjt
    · right
      rw [← e]
      have hjd : j - (i + 1) < (l.drop (i + 1)).length := by rw [List.length_drop]; omega
      rw [show l[j] = (l.drop (i + 1))[j - (i + 1)] from by rw [List.getElem_drop]; congr 1; omega]
      exact List.getElem_mem hjd
theorem srt_inj {n : Nat} {l : List Rw} (h : Srt n l) {i j : Nat} (hi : i < l.length) (hj : j < l.length) (e : keyR l[i] n = keyR l[j] n) : i = j := by
  rcases Nat.lt_trichotomy i j with hlt | rfl | hlt
  · have := (List.pairwise_iff_getElem.1 h) i j hi hj hlt
    rw [e, cmpVs_cmp.self] at this; omega
  · rfl
  · have := (List.pairwise_iff_getElem.1 h) j i hj hi hlt
    rw [e, cmpVs_cmp.self] at this; omega
theorem refs_w {s : Sch} (h : SchOk s) {st : Stt} (hs : StS s st) {r : Rf} (hr : r ∈ s.refs) {l : Rw} (hl : l ∈ st.getD r.table []) : r.column + keyN s r.to ≤ l.length := by
  have h1 := h.refs r hr
  rw [(hs.rows _ h1.1 l hl).1]; exact h1.2.2
/-- A reference is broken when a row was deleted exactly if it refers to the row. -/
theorem del_brk {s : Sch} (h : SchOk s) {st : Stt} (hs : StS s st) {tn i : Nat} (ht : tn < s.tables.length) (hi : i < (st.getD tn []).length) (hn : StS s (withoutR st tn i)) (hh : ∀ r ∈ s.refs, ∀ x ∈ st.getD r.table [], brk s st r x = false)
    {r : Rf} (hr : r ∈ s.refs) {l : Rw} (hl : l ∈ (withoutR st tn i).getD r.table []) : l ∈ st.getD r.table [] ∧ (brk s (withoutR st tn i) r l = true ↔ r.to = tn ∧ nothing (toV s r l) = false ∧ toV s r l = keyR ((st.getD tn []).getD i []) (keyN s tn)) := by
  have hrr := h.refs r hr
  have htl : tn < st.length := by rw [hs.len]; exact ht
  have hlm : l ∈ st.getD r.table [] := by
    unfold withoutR at hl
    rw [getD_set' htl] at hl
    split at hl
    · rename_i e; subst e; exact (sub_without _ _).subset hl
    · exact hl
  refine ⟨hlm, ?_⟩
  have hb := (brk_iff (refs_w h hs hr hlm)).1 (hh r hr l hlm)
  have hb2 := brk_iff (s := s) (st := withoutR st tn i) (r := r) (l := l) (refs_w h hs hr hlm)
  have hgi : (st.getD tn []).getD i [] = (st.getD tn [])[i] := getD_get hi []
  constructor
  · intro hbt
    have hnb : ¬ (nothing (toV s r l) = true ∨ ∃ x ∈ (withoutR st tn i).getD r.to [], keyR x (keyN s r.to) = toV s r l) := fun e => by
      rw [hb2.2 e] at hbt; cases hbt
    have hno : nothing (toV s r l) = false := by
      cases hq : nothing (toV s r l) with
      | true => exact absurd (.inl hq) hnb
      | false => rfl
    rw [hno] at hb
    rcases hb with hb | ⟨x, hx, hk⟩
    · cases hb
    · by_cases e : tn = r.to
      · subst e
        refine ⟨rfl, hno, ?_⟩
        obtain ⟨j, hj, rfl⟩ := List.getElem_of_mem hx
        by_cases hji : j = i
        · subst hji; rw [hgi]; exact hk.symm
        · refine absurd (.inr ⟨_, ?_, hk⟩) hnb
          unfold withoutR
          rw [getD_set' htl, if_pos rfl, without_mem]
          exact ⟨j, hji, hj, rfl⟩
      · refine absurd (.inr ⟨x, ?_, hk⟩) hnb
        unfold withoutR
        rw [getD_set' htl, if_neg e]; exact hx
  · rintro ⟨rfl, hno, hk⟩
    cases hq : brk s (withoutR st r.to i) r l with
    | true => rfl
    | false =>
      rcases hb2.1 hq with e | ⟨x, hx, hkx⟩
      · rw [hno] at e; cases e
      · unfold withoutR at hx
        rw [getD_set' htl, if_pos rfl, without_mem] at hx
        obtain ⟨j, hji, hj, rfl⟩ := hx
        rw [hk, hgi] at hkx
        exact absurd (srt_inj (hs.srt _ ht) hj hi hkx) hji
theorem del_holds {s : Sch} (h : SchOk s) (h0 : s.totals = []) {st : Stt} (hs : StS s st) {tn i : Nat} (ht : tn < s.tables.length) (hi : i < (st.getD tn []).length) (hn : StS s (withoutR st tn i)) (hh : holdsM s st = true) :
    holdsM s (withoutR st tn i) = !refdR s st (tn : Int) (keyR ((st.getD tn []).getD i []) (keyN s tn)) := by
  have hr0 := (holds_iff.1 hh).1
  rw [Bool.eq_iff_iff, holds_iff, Bool.not_eq_true', Bool.eq_false_iff]
  constructor
  · rintro ⟨hA, -⟩ hrf
    obtain ⟨r, hr, rfl, l, hl, hno, hk⟩ := refd_iff.1 hrf
    have hrr := h.refs r hr
    have hl2 : l ∈ (withoutR st r.to i).getD r.table [] := by
      unfold withoutR
      rw [getD_set' (by rw [hs.len]; exact ht), if_neg (by omega)]; exact hl
    have := (del_brk h hs ht hi hn hr0 hr hl2).2.2 ⟨rfl, hno, hk⟩
    rw [hA r hr l hl2] at this; cases this
  · intro hrf
    refine ⟨fun r hr l hl => ?_, fun t ht => by rw [h0] at ht; simp at ht⟩
    have hd := del_brk h hs ht hi hn hr0 hr hl
    cases hq : brk s (withoutR st tn i) r l with
    | false => rfl
    | true =>
      obtain ⟨e, hno, hk⟩ := hd.2.1 hq
      exact absurd (refd_iff.2 ⟨r, hr, e, l, hd.1, hno, hk⟩) hrf
theorem del_mem {s : Sch} (h : SchOk s) (h0 : s.totals = []) {st : Stt} (hs : StS s st) {tn i : Nat} (ht : tn < s.tables.length) (hi : i < (st.getD tn []).length) (hn : StS s (withoutR st tn i)) (hh : holdsM s st = true) {x : Bk} (hx : x ∈ checkR s (withoutR st tn i)) :
    ∃ k, k < s.refs.length ∧ x.1 = (k : Int) ∧ (s.refs.getD k rfN).to = tn := by
  have hr0 := (holds_iff.1 hh).1
  rw [checkR, h0] at hx
  simp only [bkTots, List.append_nil] at hx
  obtain ⟨k, hk, j, hj, e, hb⟩ := bkRefs_mem hx
  have hd := del_brk h hs ht hi hn hr0 (getD_mem' hk rfN) (getD_mem' hj [])
  exact ⟨k, hk, by rw [e]; simp, (hd.2.1 hb).1⟩
theorem refsM_pos {l : List Bk} (h : ∀ x ∈ l, 0 ≤ x.1) : decide ((refsM l : Int) > 0) = !l.isEmpty := by
  cases l with
  | nil => rfl
  | cons x l =>
    have := h x (List.mem_cons_self ..)
    have h1 : decide (x.1 ≥ 0) = true := decide_eq_true this
    simp only [refsM, h1, if_true, List.isEmpty_cons, Bool.not_false]
    exact decide_eq_true (by omega)
end
section
set_option linter.unusedVariables false
set_option linter.unusedSimpArgs false
open Go.RowKit
theorem ty3 {f : Nat} {ds : List Dat} (h : tyR T (f + 1) 3 ds) : ∃ n : Int, ds = [.lit (.int .i64 n)] := by
  simp only [tyR, T3, ti3] at h
  obtain ⟨n, h1, _⟩ := h
  exact ⟨n, h1⟩
theorem ty5 {f : Nat} {ds : List Dat} (h : tyR T (f + 1) 5 ds) : ∃ n : Int, ds = [.lit (.int .u8 n)] ∧ 0 ≤ n ∧ n < 256 := by
  simp only [tyR, T5, ti5] at h
  obtain ⟨n, h1, h2⟩ := h
  have := bounds_u8 h2
  exact ⟨n, h1, by omega⟩
theorem cut_eqs {ds a r : List Dat} {k : Nat} (h1 : ds.take k = a) (h2 : ds.drop k = r) : ds = a ++ r := by
  rw [← h1, ← h2, List.take_append_drop]
theorem ty22 {f : Nat} {ds : List Dat} (h : tyR T (f + 2) 22 ds) : ∃ b : List Int, ds = [bytesD b] ∧ ∀ x ∈ b, 0 ≤ x ∧ x < 256 := by
  rw [tyR] at h
  simp only [T22, ti22, T5, ti5] at h
  obtain ⟨rows, rfl, h⟩ := h
  obtain ⟨l, rfl, hl⟩ := rows_of (f := fun n : Int => [Dat.lit (.int .u8 n)]) (Q := fun x => 0 ≤ x ∧ x < 256) h fun r hr => ty5 hr
  exact ⟨l, rfl, hl⟩
theorem ty26 {f : Nat} {ds : List Dat} (h : tyR T (f + 2) 26 ds) : ∃ b : List Int, ds = [ints b] := by
  rw [tyR] at h
  simp only [T26, ti26, T3, ti3] at h
  obtain ⟨rows, rfl, h⟩ := h
  obtain ⟨l, rfl, hl⟩ := rows_of (f := fun n : Int => [Dat.lit (.int .i64 n)]) (Q := fun x => True) h fun r hr => by
    obtain ⟨n, h⟩ := ty3 hr
    exact ⟨n, h, trivial⟩
  exact ⟨l, rfl⟩
theorem ty24 {f : Nat} {ds : List Dat} (h : tyR T (f + 3) 24 ds) : ∃ b : List Int, ds = [bytesD b] ∧ ∀ x ∈ b, 0 ≤ x ∧ x < 256 := by
  rw [tyR] at h
  simp only [T24, ti24, T22, ti22, List.map_cons, List.map_nil, StructR] at h
  obtain ⟨h1, h2⟩ := h
  obtain ⟨b, h1, hb⟩ := ty22 h1
  exact ⟨b, cut_eqs h1 h2, hb⟩
theorem ty25 {f : Nat} {ds : List Dat} (h : tyR T (f + 3) 25 ds) : ∃ b c : List Int, ds = [bytesD b, bytesD c] ∧ (∀ x ∈ b, 0 ≤ x ∧ x < 256) ∧ ∀ x ∈ c, 0 ≤ x ∧ x < 256 := by
  rw [tyR] at h
  simp only [T25, ti25, T22, ti22, List.replicate_succ, List.replicate_zero, StructR] at h
  obtain ⟨h1, h2, h3⟩ := h
  obtain ⟨b, h1, hb⟩ := ty22 h1
  obtain ⟨c, h2, hc⟩ := ty22 h2
  exact ⟨b, c, cut_eqs h1 (cut_eqs h2 h3), hb, hc⟩
theorem ty81 {f : Nat} {ds : List Dat} (h : tyR T (f + 2) 81 ds) : ∃ a b : Int, ds = [.lit (.int .u8 a), .lit (.int .u8 b)] ∧ (0 ≤ a ∧ a < 256) ∧ 0 ≤ b ∧ b < 256 := by
  rw [tyR] at h
  simp only [T81, ti81, T5, ti5, List.replicate_succ, List.replicate_zero, StructR] at h
  obtain ⟨h1, h2, h3⟩ := h
  obtain ⟨b, h1, hb⟩ := ty5 h1
  obtain ⟨c, h2, hc⟩ := ty5 h2
  exact ⟨b, c, cut_eqs h1 (cut_eqs h2 h3), hb, hc⟩
theorem ty87 {f : Nat} {ds : List Dat} (h : tyR T (f + 2) 87 ds) : ∃ a b c : Int, ds = [.lit (.int .u8 a), .lit (.int .u8 b), .lit (.int .u8 c)] ∧ (0 ≤ a ∧ a < 256) ∧ (0 ≤ b ∧ b < 256) ∧ 0 ≤ c ∧ c < 256 := by
  rw [tyR] at h
  simp only [T87, ti87, T5, ti5, List.replicate_succ, List.replicate_zero, StructR] at h
  obtain ⟨h1, h2, h3, h4⟩ := h
  obtain ⟨b, h1, hb⟩ := ty5 h1
  obtain ⟨c, h2, hc⟩ := ty5 h2
  obtain ⟨d, h3, hd⟩ := ty5 h3
  exact ⟨b, c, d, cut_eqs h1 (cut_eqs h2 (cut_eqs h3 h4)), hb, hc, hd⟩
theorem tyRs_one {f t : Nat} {ts : List Nat} {dss : List (List Dat)} (h : tyRs T f (t :: ts) dss) : ∃ ds r, dss = ds :: r ∧ tyR T f t ds ∧ tyRs T f ts r := by
  cases dss with
  | nil => exact h.elim
  | cons ds r => exact ⟨ds, r, rfl, h.1, h.2⟩
theorem tyRs_nil {f : Nat} {dss : List (List Dat)} (h : tyRs T f [] dss) : dss = [] := by
  cases dss with
  | nil => rfl
  | cons ds r => exact h.elim
end
section
set_option linter.unusedVariables false
set_option linter.unusedSimpArgs false
open Go.RowKit
attribute [local irreducible] AWp evOps evD
theorem SchOk.less {s : Sch} (h : SchOk s) {rs : List Rf} (hr : ∀ r ∈ rs, r ∈ s.refs) (hl : rs.length ≤ 2) : SchOk ⟨s.tables, rs, []⟩ where
  tlen := h.tlen
  keys := h.keys
  types := h.types
  rlen := hl
  refs := fun r hr' => h.refs r (hr r hr')
  totlen := by simp
  tots := fun t ht => by simp at ht
theorem StS.less {s : Sch} {st : Stt} (h : StS s st) (rs : List Rf) : StS ⟨s.tables, rs, []⟩ st := ⟨⟨h.len, h.few, h.rows⟩, h.srt⟩
def putAll (n : Nat) (l : List Rw) : List Rw → List Rw
  | [] => l
  | r :: rs => putAll n (putR n r l) rs
theorem putAll_snoc (n : Nat) (r : Rw) : ∀ (rs l : List Rw), putAll n l (rs ++ [r]) = putR n r (putAll n l rs)
  | [], _ => rfl
  | x :: rs, l => by simp only [List.cons_append, putAll, putAll_snoc n r rs]
theorem putAll_ok {n m : Nat} : ∀ {rs l : List Rw}, (∀ r ∈ rs, RowV m r) → (∀ r ∈ l, RowV m r) → Srt n l → (∀ r ∈ putAll n l rs, RowV m r) ∧ Srt n (putAll n l rs) ∧ (putAll n l rs).length ≤ l.length + rs.length
  | [], l, _, hl, hs => ⟨hl, hs, by show l.length ≤ _; simp⟩
  | x :: rs, l, hr, hl, hs => by
    have h1 := putAll_ok (n := n) (l := putR n x l) (fun r h => hr r (List.mem_cons_of_mem _ h)) (fun r h => by
      rcases putR_mem h with rfl | h
      · exact hr _ (List.mem_cons_self ..)
      · exact hl r h) (putR_srt hs)
    have h2 := (putR_len n x l).2
    exact ⟨h1.1, h1.2.1, by have := h1.2.2; simp only [putAll, List.length_cons]; omega⟩
theorem putR_keep {n : Nat} {r x : Rw} : ∀ {l : List Rw}, x ∈ l → x ∈ putR n r l
  | y :: l, h => by
    simp only [putR]
    split
    · rcases List.mem_cons.1 h with rfl | h
      · exact List.mem_cons_self ..
      · exact List.mem_cons_of_mem _ (putR_keep h)
    · split
      · exact h
      · exact List.mem_cons_of_mem _ h
theorem putAll_keep {n : Nat} {x : Rw} : ∀ {rs l : List Rw}, x ∈ l → x ∈ putAll n l rs
  | [], _, h => h
  | r :: rs, l, h => by
    show x ∈ putAll n (putR n r l) rs
    exact putAll_keep (putR_keep h)
theorem set_self {st : Stt} {t : Nat} (h : t < st.length) : st.set t (st.getD t []) = st := by
  apply List.ext_getElem
  · simp
  · intro i h1 h2
    rw [List.getElem_set]
    split
    · rename_i e; subst e; rw [getD_get h2]
    · rfl
theorem rem_nat {a : Int} (ha : 0 ≤ a) {n : Nat} (hn : 0 < n) : ∃ t : Nat, a.tmod (n : Int) = t ∧ t < n := by
  have h1 := Int.tmod_nonneg (n : Int) ha
  have h2 := Int.tmod_lt_of_pos a (b := (n : Int)) (by omega)
  exact ⟨(a.tmod (n : Int)).toNat, by omega, by omega⟩
theorem one_holds {s : Sch} (h : SchOk s) {st : Stt} (hs : StS s st) (hr0 : ∀ r ∈ s.refs, ∀ x ∈ st.getD r.table [], brk s st r x = false) {r : Rf} (hr : r ∈ s.refs) {now : Stt} (hn : StS s now) (h1 : ∀ x ∈ now.getD r.table [], x ∈ st.getD r.table []) (h2 : ∀ x ∈ st.getD r.to [], x ∈ now.getD r.to []) : holdsM ⟨s.tables, [r], []⟩ now = true := by
  rw [holds_iff]
  refine ⟨fun r' hr' l hl => ?_, fun t ht => by simp at ht⟩
  simp only [List.mem_singleton] at hr'
  subst hr'
  show brk s now r' l = false
  rw [brk_iff (refs_w h hn hr hl)]
  have hb := (brk_iff (refs_w h hs hr (h1 l hl))).1 (hr0 r' hr l (h1 l hl))
  rcases hb with hb | ⟨x, hx, hk⟩
  · exact .inl hb
  · exact .inr ⟨x, h2 x hx, hk⟩
set_option maxHeartbeats 32000000 in
set_option maxRecDepth 10000 in
theorem f5_spec (b b0 b1 : List Int) (kk : Int) (hb : ∀ x ∈ b, 0 ≤ x ∧ x < 256) (hb0 : ∀ x ∈ b0, 0 ≤ x ∧ x < 256) (hb1 : ∀ x ∈ b1, 0 ≤ x ∧ x < 256) (hkk : 0 ≤ kk ∧ kk < 256) : Spec Try.prog 5 [.agg [.d (bytesD b)], .agg [.d (bytesD b0), .d (bytesD b1)], litI .u8 kk] (litB true) := by
  have h := madeS_ok hb
  have h10 := f10_spec b hb
  generalize madeS b = s at *
  have k0 := madeM_ok h hb0
  have k1 := madeM_ok h hb1
  have h110 := f11_spec s b0 h hb0
  have h111 := f11_spec s b1 h hb1
  generalize madeM s b0 = st0 at *
  generalize madeM s b1 = ot at *
  have h12 := f12_spec s st0 h k0.1 (by omega)
  have k2 := mend_v h 40 k0.1
  have kr := bkRefs_nil.1 (mend_refs h 40 k0.1 (by omega))
  generalize mendM s 40 st0 = st at *
  obtain ⟨hold, hoc⟩ := k2
  obtain ⟨hot, htc⟩ := k1
  have htb := h.tlen
  have hrl := h.rlen
  have hol := hold.len
  have htol := hot.len
  have wk : IntKind.i64.wrap kk = kk := wrap_id (by omega)
  have sold := hold.sts (by omega)
  have sot := hot.sts (by omega)
  refine spec_of_awp (fn := Try.f5) Try.func5 (by kernel_rfl) rfl ?_
  intro w0 C0
  simp only [Try.ntmps5, litI, litB, litS, List.length_cons, List.length_nil, Nat.reduceAdd, Nat.reduceSub, List.replicate_succ, List.replicate_zero, List.cons_append, List.nil_append]
  repeat' first
    | refine awp_seq ?_
    | refine awp_block ?_
    | refine awp_skip ?_
    | (refine reg _ (by (simp only [List.map_cons, List.map_nil]; rfl)) rfl ?_; intro K hK)
    | (refine awp_cond _ (by rfl) ?_ ?_ <;> (intro hb; first | (cases hb; done) | (have ht : true = true := hb; clear ht hb) | (have ht : false = false := hb; clear ht hb) | (simp only [hb]) | skip))
    | (refine awp_exit ?_; simp only [thenA, blockA, scopeA, reduceIte, RetQ, Nat.reduceEqDiff])
    | (refine awp_ret ?_; simp only [thenA, blockA, scopeA, RetQ])
    | (refine ev_nil (hK _ ?_); clear hK K)
    | (apply ev_guardU; (case hj | hu | hσ => (simp only [go_sem, Bool.and_false, Bool.false_and, Bool.and_self]; try rfl)))
    | (refine ev_guardT _ _ (by (simp only [go_sem, Bool.and_false, Bool.false_and, Bool.and_self]; rfl)) (by (simp only [go_sem, Bool.and_false, Bool.false_and, Bool.and_self]; rfl)) ?_ ?_ <;> (intro hb; first | (cases hb; done) | (have ht : true = true := hb; clear ht hb) | (have ht : false = false := hb; clear ht hb) | (simp only [hb]) | skip))
    | (refine ev_guardF _ _ (by (simp only [go_sem, Bool.and_false, Bool.false_and, Bool.and_self]; rfl)) (by (simp only [go_sem, Bool.and_false, Bool.false_and, Bool.and_self]; rfl)) ?_ ?_ <;> (intro hb; first | (cases hb; done) | (have ht : true = true := hb; clear ht hb) | (have ht : false = false := hb; clear ht hb) | (simp only [hb]) | skip))
    | (apply ev_call0; (case hys => (simp only [go_sem, Bool.and_false, Bool.false_and, Bool.and_self]; try rfl)); (case hs => first | exact f9_spec .. | exact h10 .. | exact h110 .. | exact h111 .. | exact h12 ..); (case hok | hσ => (simp only [go_sem, Bool.and_false, Bool.false_and, Bool.and_self]; try rfl)))
    | (apply regD; (case hd => (simp only [List.map_cons, List.map_nil]; rfl)); (case hok => rfl); (case' h => (intro K hK; (repeat' first
        | (apply evd_nil; refine (hK _ ?_); clear hK K)
        | (apply evd_guardU0; (case hj | hu | hσ => (simp only [go_sem, Bool.and_false, Bool.false_and, Bool.and_self]; try rfl)))
        | (apply evd_guardU; (case hj | hu | hσ => (simp only [go_sem, Bool.and_false, Bool.false_and, Bool.and_self]; try rfl)))
        | (apply evd_skipT0; (case hj | hb | hσ => (simp only [go_sem, Bool.and_false, Bool.false_and, Bool.and_self]; try rfl)))
        | (apply evd_skipF0; (case hj | hb | hσ => (simp only [go_sem, Bool.and_false, Bool.false_and, Bool.and_self]; try rfl)))
        | (apply evd_skipT; (case hj | hb | hσ => (simp only [go_sem, Bool.and_false, Bool.false_and, Bool.and_self]; try rfl)))
        | (apply evd_skipF; (case hj | hb | hσ => (simp only [go_sem, Bool.and_false, Bool.false_and, Bool.and_self]; try rfl)))
        | (apply evd_guardT; (case hj | hb => (simp only [go_sem, Bool.and_false, Bool.false_and, Bool.and_self]; try rfl)); (case' h2 => (intro hb; first | (cases hb; done) | (simp only [hb]) | skip)); (case' h1 => (intro hb; first | (cases hb; done) | (simp only [hb]) | skip)))
        | (apply evd_guardF; (case hj | hb => (simp only [go_sem, Bool.and_false, Bool.false_and, Bool.and_self]; try rfl)); (case' h2 => (intro hb; first | (cases hb; done) | (simp only [hb]) | skip)); (case' h1 => (intro hb; first | (cases hb; done) | (simp only [hb]) | skip)))
        | (apply evd_call0; (case hi | hys => (simp only [go_sem, Bool.and_false, Bool.false_and, Bool.and_self]; try rfl)); (case hs => first | exact f9_spec .. | exact h10 .. | exact h110 .. | exact h111 .. | exact h12 ..); (case hok | hw | hσ => (simp only [go_sem, Bool.and_false, Bool.false_and, Bool.and_self]; try rfl)))
        | (apply evd_step0; (case hr | hi | hσ => (simp only [go_sem, Bool.and_false, Bool.false_and, Bool.and_self]; try rfl)); (case hc => (first | trivial | decide | (simp only [inB, sliceOk, appendOk, rowsOk]; omega) | (simp [inB, sliceOk, appendOk, rowsOk]; omega))))
        | (apply evd_step; (case hr | hi => (simp only [go_sem, Bool.and_false, Bool.false_and, Bool.and_self]; try rfl)); (case hc => (first | trivial | decide | (simp only [inB, sliceOk, appendOk, rowsOk]; omega) | (simp [inB, sliceOk, appendOk, rowsOk]; omega))); (case hw | hσ => (intro g u; simp only [go_sem, Bool.and_false, Bool.false_and, Bool.and_self]; try rfl)); (case' hk => (intro g u; (try clear u); (try clear g))))
        | fail))); (case hB => kernel_rfl))
    | (apply ev_step0; (case hr | hσ => (simp only [go_sem, Bool.and_false, Bool.false_and, Bool.and_self]; try rfl)); (case hc => (first | trivial | decide | (simp only [inB, sliceOk, appendOk, rowsOk]; omega) | (simp [inB, sliceOk, appendOk, rowsOk]; omega))))
    | (apply ev_step; (case hr => (simp only [go_sem, Bool.and_false, Bool.false_and, Bool.and_self]; try rfl)); (case hσ => (intro g u; simp only [go_sem, Bool.and_false, Bool.false_and, Bool.and_self]; try rfl)); (case hc => (first | trivial | decide | (simp only [inB, sliceOk, appendOk, rowsOk]; omega) | (simp [inB, sliceOk, appendOk, rowsOk]; omega))); intro g u; (try clear u); (try clear g))
    | fail
  rename_i g3 g4 g8 g9
  revert g; intro g10
  refine awp_loopI (fun i : Nat => i ≤ s.refs.length) (fun i => s.refs.length - i) (fun i => ⟨[.any, .any, litI .u8 kk, .any, .any, .any, .any, litB true, .ptr 8 g8 0, .ptr 9 g9 0, .ptr 10 g10 0, litI .i64 i, .any, .any, .any, .any, .any, .any, .any, .any, .any, .any, .any, .any, .any, .any, .any, .any, .any, .any, .any, .any, .any, .any, .any, .any, .any, .any, .any, .any, .any, .any, .any, .any, .any, .any, .any, .any, .any, .any, .any, .any, .any, .any, .any, .any, .any, .any, .any, .any, .any, .any, .any, .any, .any, .any, .any, .any, .any, .any, .any, .any, .any, .any, .any, .any, .any, .any, .any, .any, .any, .any, .any, .any, .any, .any, .any, .any, .any, .any, .any, .any, .any, .any, .any, .any, .any, .any, .any, .any, .any, .any, .any, .any, .any, .any, .any, .any, .any, .any, .any, .any, .any, .any, .any, .any, .any, .any, .any, .any, .any, .any, .any, .any, .any, .any, .any, .any, .any, .any, .any, .any, .any, .any, .any, .any, .any, .any, .any], [.no, .no, .no, .no, .no, .no, .no, .no, .box g8 (schA s), .box g9 (stA st), .box g10 (stA ot), .no, .no, .no, .no, .no, .no, .no, .no, .no, .no, .no, .no, .no, .no, .no, .no, .no, .no, .no, .no, .no, .no, .no, .no, .no, .no, .no, .no, .no, .no, .no, .no, .no, .no, .no, .no, .no, .no, .no, .no, .no, .no, .no, .no, .no, .no, .no, .no, .no, .no, .no, .no, .no, .no, .no, .no, .no, .no, .no, .no, .no, .no, .no, .no, .no, .no, .no, .no, .no, .no, .no, .no, .no, .no, .no, .no, .no, .no, .no, .no, .no, .no, .no, .no, .no, .no, .no, .no, .no, .no, .no, .no, .no, .no, .no, .no, .no, .no, .no, .no, .no, .no, .no, .no, .no, .no, .no, .no, .no, .no, .no, .no, .no, .no, .no, .no, .no, .no, .no, .no, .no, .no, .no, .no, .no, .no, .no, .no]⟩) 0 (by omega) ?_ ?_
  · refine Wk.mk ?_ ?_
    all_goals (repeat' first | exact trivial | exact LeA.refl _ | exact LeA.any _ | exact LeO.refl _ | exact LeO.no _ | exact LeA.nil _ | exact LeA.nilOwn _ | exact LeO.nil _ _ _ | refine LeO.box ?_ | (refine LeA.i ?_; (first | rfl | (push_cast; rfl) | (rw [wrap_id (by omega)]; push_cast; omega) | (simp [wrap_id]; omega))) | refine ⟨?_, ?_⟩)
  clear h10 h110 h111 h12
  intro i hi
  simp only [litI, litB] at hi ⊢
  by_cases h1 : i < s.refs.length
  rotate_left
  · have d1 : decide ((i : Int) < (s.refs.length : Int)) = false := decide_eq_false (by omega)
    repeat' first
      | refine awp_seq ?_
      | refine awp_block ?_
      | refine awp_skip ?_
      | (refine reg _ (by (simp only [List.map_cons, List.map_nil]; rfl)) rfl ?_; intro K hK)
      | (refine awp_cond _ (by rfl) ?_ ?_ <;> (intro hb; first | (cases hb; done) | (have ht : true = true := hb; clear ht hb) | (have ht : false = false := hb; clear ht hb) | (simp only [hb]) | skip))
      | (refine awp_exit ?_; simp only [thenA, blockA, scopeA, reduceIte, RetQ, Nat.reduceEqDiff])
      | (refine awp_ret ?_; simp only [thenA, blockA, scopeA, RetQ])
      | (refine ev_nil (hK _ ?_); clear hK K)
      | (apply ev_guardU; (case hj | hu | hσ => (simp only [go_sem, d1]; try rfl)))
      | (refine ev_guardT _ _ (by (simp only [go_sem, d1]; rfl)) (by (simp only [go_sem, d1]; rfl)) ?_ ?_ <;> (intro hb; first | (cases hb; done) | (have ht : true = true := hb; clear ht hb) | (have ht : false = false := hb; clear ht hb) | (simp only [hb]) | skip))
      | (refine ev_guardF _ _ (by (simp only [go_sem, d1]; rfl)) (by (simp only [go_sem, d1]; rfl)) ?_ ?_ <;> (intro hb; first | (cases hb; done) | (have ht : true = true := hb; clear ht hb) | (have ht : false = false := hb; clear ht hb) | (simp only [hb]) | skip))
      | (apply regD; (case hd => (simp only [List.map_cons, List.map_nil]; rfl)); (case hok => rfl); (case' h => (intro K hK; (repeat' first
        | (apply evd_nil; refine (hK _ ?_); clear hK K)
        | (apply evd_guardU0; (case hj | hu | hσ => (simp only [go_sem, d1]; try rfl)))
        | (apply evd_guardU; (case hj | hu | hσ => (simp only [go_sem, d1]; try rfl)))
        | (apply evd_skipT0; (case hj | hb | hσ => (simp only [go_sem, d1]; try rfl)))
        | (apply evd_skipF0; (case hj | hb | hσ => (simp only [go_sem, d1]; try rfl)))
        | (apply evd_skipT; (case hj | hb | hσ => (simp only [go_sem, d1]; try rfl)))
        | (apply evd_skipF; (case hj | hb | hσ => (simp only [go_sem, d1]; try rfl)))
        | (apply evd_guardT; (case hj | hb => (simp only [go_sem, d1]; try rfl)); (case' h2 => (intro hb; first | (cases hb; done) | (simp only [hb]) | skip)); (case' h1 => (intro hb; first | (cases hb; done) | (simp only [hb]) | skip)))
        | (apply evd_guardF; (case hj | hb => (simp only [go_sem, d1]; try rfl)); (case' h2 => (intro hb; first | (cases hb; done) | (simp only [hb]) | skip)); (case' h1 => (intro hb; first | (cases hb; done) | (simp only [hb]) | skip)))
        | (apply evd_step0; (case hr | hi | hσ => (simp only [go_sem, d1]; try rfl)); (case hc => (first | trivial | decide | (simp only [inB, sliceOk, appendOk, rowsOk]; omega) | (simp [inB, sliceOk, appendOk, rowsOk]; omega))))
        | (apply evd_step; (case hr | hi => (simp only [go_sem, d1]; try rfl)); (case hc => (first | trivial | decide | (simp only [inB, sliceOk, appendOk, rowsOk]; omega) | (simp [inB, sliceOk, appendOk, rowsOk]; omega))); (case hw | hσ => (intro g u; simp only [go_sem, d1]; try rfl)); (case' hk => (intro g u; (try clear u); (try clear g))))
        | fail))); (case hB => kernel_rfl))
      | (apply ev_step0; (case hr | hσ => (simp only [go_sem, d1]; try rfl)); (case hc => (first | trivial | decide | (simp only [inB, sliceOk, appendOk, rowsOk]; omega) | (simp [inB, sliceOk, appendOk, rowsOk]; omega))))
      | (apply ev_step; (case hr => (simp only [go_sem, d1]; try rfl)); (case hσ => (intro g u; simp only [go_sem, d1]; try rfl)); (case hc => (first | trivial | decide | (simp only [inB, sliceOk, appendOk, rowsOk]; omega) | (simp [inB, sliceOk, appendOk, rowsOk]; omega))); intro g u; (try clear u); (try clear g))
      | fail
    all_goals (refine resR_one T_ok rfl _ (by (simp only [go_sem, resA]; rfl)) (by first | trivial | (simp only [go_sem, resA])) (by first | trivial | (simp only [go_sem])) ?_; simp only [go_sem])
    exact LeA.refl _
  have d1 : decide ((i : Int) < (s.refs.length : Int)) = true := decide_eq_true (by omega)
  have hx := rfs_at s.refs h1
  have hrm : s.refs.getD i rfN ∈ s.refs := getD_mem' h1 _
  have hcut : List.drop i (List.take (i + 1) s.refs) = [s.refs.getD i rfN] := by
    rw [take_succ' _ rfN h1, List.drop_append, List.drop_eq_nil_of_le (by simp; omega)]
    simp [Nat.min_eq_left (Nat.le_of_lt h1)]
  have w1 : IntKind.i64.wrap ((i : Int) + 1) = ((i + 1 : Nat) : Int) := by rw [wrap_id (by omega)]; push_cast; rfl
  generalize s.refs.getD i rfN = r at *
  have hrr := h.refs r hrm
  have hto : r.to < s.tables.length := by omega
  have hone : SchOk ⟨s.tables, [r], []⟩ := h.less (fun x hx => by simp only [List.mem_singleton] at hx; subst hx; exact hrm) (by simp)
  have hy := stt_at ot (i := r.to) (by omega)
  have hz := tbs_at s.tables hto
  have hkn : (s.tables.getD r.to tbN).key = keyN s r.to := rfl
  have hkc := h.keys _ hto
  have hsame := set_self (st := st) (t := r.to) (by omega)
  have hcl := cnt_le (st := st) r.to
  have hct := cnt_le (st := ot) r.to
  obtain ⟨pa, hpa⟩ : ∃ pa : Nat → List Rw, ∀ i, putAll (keyN s r.to) (st.getD r.to []) ((ot.getD r.to []).take i) = pa i := ⟨_, fun _ => rfl⟩
  have hpa0 : pa 0 = st.getD r.to [] := by rw [← hpa]; rfl
  have hpaS : ∀ i, i < (ot.getD r.to []).length → pa (i + 1) = putR (keyN s r.to) ((ot.getD r.to []).getD i []) (pa i) := fun i hi => by
    rw [← hpa, ← hpa, take_succ' _ [] hi, putAll_snoc]
  have hpaok : ∀ i, (∀ x ∈ pa i, RowV (colN s r.to) x) ∧ Srt (keyN s r.to) (pa i) ∧ (pa i).length ≤ 1000 ∧ ∀ x ∈ st.getD r.to [], x ∈ pa i := fun i => by
    have := putAll_ok (n := keyN s r.to) (m := colN s r.to) (rs := (ot.getD r.to []).take i) (l := st.getD r.to []) (fun x hx => hot.rows _ hto x (List.mem_of_mem_take hx)) (hold.rows _ hto) (hold.srt _ hto)
    rw [hpa] at this
    refine ⟨this.1, this.2.1, ?_, fun x hx => by rw [← hpa]; exact putAll_keep hx⟩
    have h2 := this.2.2
    rw [List.length_take] at h2
    omega
  have hnS : ∀ i, StS s (st.set r.to (pa i)) := fun i => by
    have h1 := hpaok i
    refine (hold.set hto h1.1 h1.2.1).sts ?_
    have := cnt_set (st := st) (t := r.to) (by omega) (pa i)
    have := putAll_ok (n := keyN s r.to) (m := colN s r.to) (rs := (ot.getD r.to []).take i) (l := st.getD r.to []) (fun x hx => hot.rows _ hto x (List.mem_of_mem_take hx)) (hold.rows _ hto) (hold.srt _ hto)
    rw [hpa] at this
    have h2 := this.2.2
    rw [List.length_take] at h2
    omega
  have hrowsT := hot.rows _ hto
  have c17 := fun x (hx : StS s x) => f17_spec ⟨s.tables, [r], []⟩ x hone (hx.less [r])
  have c17a := c17 st sold
  rw [one_holds h sold kr hrm sold (fun x hx => hx) (fun x hx => hx)] at c17a
  clear hpa
  repeat' first
    | refine awp_seq ?_
    | refine awp_block ?_
    | refine awp_skip ?_
    | (refine reg _ (by (simp only [List.map_cons, List.map_nil]; rfl)) rfl ?_; intro K hK)
    | (refine awp_cond _ (by rfl) ?_ ?_ <;> (intro hb; first | (cases hb; done) | (have ht : true = true := hb; clear ht hb) | (have ht : false = false := hb; clear ht hb) | (simp only [hb]) | skip))
    | (refine awp_exit ?_; simp only [thenA, blockA, scopeA, reduceIte, RetQ, Nat.reduceEqDiff])
    | (refine awp_ret ?_; simp only [thenA, blockA, scopeA, RetQ])
    | (refine ev_nil (hK _ ?_); clear hK K)
    | (apply ev_guardU; (case hj | hu | hσ => (simp only [go_sem, d1, hx, w1, hcut]; try rfl)))
    | (refine ev_guardT _ _ (by (simp only [go_sem, d1, hx, w1, hcut]; rfl)) (by (simp only [go_sem, d1, hx, w1, hcut]; rfl)) ?_ ?_ <;> (intro hb; first | (cases hb; done) | (have ht : true = true := hb; clear ht hb) | (have ht : false = false := hb; clear ht hb) | (simp only [hb]) | skip))
    | (refine ev_guardF _ _ (by (simp only [go_sem, d1, hx, w1, hcut]; rfl)) (by (simp only [go_sem, d1, hx, w1, hcut]; rfl)) ?_ ?_ <;> (intro hb; first | (cases hb; done) | (have ht : true = true := hb; clear ht hb) | (have ht : false = false := hb; clear ht hb) | (simp only [hb]) | skip))
    | (apply regD; (case hd => (simp only [List.map_cons, List.map_nil]; rfl)); (case hok => rfl); (case' h => (intro K hK; (repeat' first
        | (apply evd_nil; refine (hK _ ?_); clear hK K)
        | (apply evd_guardU0; (case hj | hu | hσ => (simp only [go_sem, d1, hx, w1, hcut]; try rfl)))
        | (apply evd_guardU; (case hj | hu | hσ => (simp only [go_sem, d1, hx, w1, hcut]; try rfl)))
        | (apply evd_skipT0; (case hj | hb | hσ => (simp only [go_sem, d1, hx, w1, hcut]; try rfl)))
        | (apply evd_skipF0; (case hj | hb | hσ => (simp only [go_sem, d1, hx, w1, hcut]; try rfl)))
        | (apply evd_skipT; (case hj | hb | hσ => (simp only [go_sem, d1, hx, w1, hcut]; try rfl)))
        | (apply evd_skipF; (case hj | hb | hσ => (simp only [go_sem, d1, hx, w1, hcut]; try rfl)))
        | (apply evd_guardT; (case hj | hb => (simp only [go_sem, d1, hx, w1, hcut]; try rfl)); (case' h2 => (intro hb; first | (cases hb; done) | (simp only [hb]) | skip)); (case' h1 => (intro hb; first | (cases hb; done) | (simp only [hb]) | skip)))
        | (apply evd_guardF; (case hj | hb => (simp only [go_sem, d1, hx, w1, hcut]; try rfl)); (case' h2 => (intro hb; first | (cases hb; done) | (simp only [hb]) | skip)); (case' h1 => (intro hb; first | (cases hb; done) | (simp only [hb]) | skip)))
        | (apply evd_step0; (case hr | hi | hσ => (simp only [go_sem, d1, hx, w1, hcut]; try rfl)); (case hc => (first | trivial | decide | (simp only [inB, sliceOk, appendOk, rowsOk]; omega) | (simp [inB, sliceOk, appendOk, rowsOk]; omega))))
        | (apply evd_step; (case hr | hi => (simp only [go_sem, d1, hx, w1, hcut]; try rfl)); (case hc => (first | trivial | decide | (simp only [inB, sliceOk, appendOk, rowsOk]; omega) | (simp [inB, sliceOk, appendOk, rowsOk]; omega))); (case hw | hσ => (intro g u; simp only [go_sem, d1, hx, w1, hcut]; try rfl)); (case' hk => (intro g u; (try clear u); (try clear g))))
        | fail))); (case hB => kernel_rfl))
    | (apply ev_step0; (case hr | hσ => (simp only [go_sem, d1, hx, w1, hcut]; try rfl)); (case hc => (first | trivial | decide | (simp only [inB, sliceOk, appendOk, rowsOk]; omega) | (simp [inB, sliceOk, appendOk, rowsOk]; omega))))
    | (apply ev_step; (case hr => (simp only [go_sem, d1, hx, w1, hcut]; try rfl)); (case hσ => (intro g u; simp only [go_sem, d1, hx, w1, hcut]; try rfl)); (case hc => (first | trivial | decide | (simp only [inB, sliceOk, appendOk, rowsOk]; omega) | (simp [inB, sliceOk, appendOk, rowsOk]; omega))); intro g u; (try clear u); (try clear g))
    | fail
  rename_i g12 u60
  revert g; intro g15
  revert u; intro v60
  refine awp_loopI (fun j : Nat => j ≤ (ot.getD r.to []).length) (fun j => (ot.getD r.to []).length - j) (fun j => ⟨[.any, .any, litI .u8 kk, .any, .any, .any, .any, litB true, .ptr 8 g8 0, .ptr 9 g9 0, .ptr 10 g10 0, litI .i64 i, .ptr 12 g12 0, litI .i64 (r.to : Int), litI .i64 (r.table : Int), .ptr 15 g15 0, litI .i64 j, .any, .any, .any, .any, .any, .any, .any, .any, .any, .any, .any, .any, .any, .any, .any, .any, .any, .any, .any, .any, .any, .any, .any, .any, .any, .any, .any, .any, .any, .any, .any, .any, .any, .any, .any, .any, .any, .any, .any, .any, .any, .any, .any, .any, .any, .any, .any, .any, .any, .any, .any, .any, .any, .any, .any, .any, .any, .any, .any, .any, .any, .any, .any, .any, .any, .any, .any, .any, .any, .any, .any, .any, .any, .any, .any, .any, .any, .any, .any, .any, .any, .any, .any, .any, .any, .any, .any, .any, .any, .any, .any, .any, .any, .any, .any, .any, .any, .any, .any, .any, .any, .any, .any, .any, .any, .any, .any, .any, .any, .any, .any, .any, .any, .any, .any, .any, .any, .any, .any, .any, .any, .any], [.no, .no, .no, .no, .no, .no, .no, .no, .box g8 (schA s), .box g9 (stA st), .box g10 (stA ot), .no, .box g12 [.d (tbsD s.tables), .d (rfsD [r]), .d (.sl 4 [])], .no, .no, .box g15 [.own 60 v60], .no, .no, .no, .no, .no, .no, .no, .no, .no, .no, .no, .no, .no, .no, .no, .no, .no, .no, .no, .no, .no, .no, .no, .no, .no, .no, .no, .no, .no, .no, .no, .no, .no, .no, .no, .no, .no, .no, .no, .no, .no, .no, .no, .no, .row v60 51 1 ((st.set r.to (pa j)).map fun t => [rwsD t]), .no, .no, .no, .no, .no, .no, .no, .no, .no, .no, .no, .no, .no, .no, .no, .no, .no, .no, .no, .no, .no, .no, .no, .no, .no, .no, .no, .no, .no, .no, .no, .no, .no, .no, .no, .no, .no, .no, .no, .no, .no, .no, .no, .no, .no, .no, .no, .no, .no, .no, .no, .no, .no, .no, .no, .no, .no, .no, .no, .no, .no, .no, .no, .no, .no, .no, .no, .no, .no, .no, .no, .no, .no, .no, .no, .no, .no, .no]⟩) 0 (by omega) ?_ ?_
  · rw [hpa0, hsame]
    refine Wk.mk ?_ ?_
    all_goals (repeat' first | exact trivial | exact LeA.refl _ | exact LeA.any _ | exact LeO.refl _ | exact LeO.no _ | exact LeA.nil _ | exact LeA.nilOwn _ | exact LeO.nil _ _ _ | refine LeO.box ?_ | (refine LeA.i ?_; (first | rfl | (push_cast; rfl) | (rw [wrap_id (by omega)]; push_cast; omega) | (simp [wrap_id]; omega))) | refine ⟨?_, ?_⟩)
  intro j hj
  simp only [litI, litB] at hj ⊢
  have hln : (st.set r.to (pa j)).length = st.length := List.length_set ..
  have hnx := stt_at (st.set r.to (pa j)) (i := r.to) (by omega)
  rw [getD_set' (by omega), if_pos rfl] at hnx
  by_cases hc1 : j < (ot.getD r.to []).length
  · have d2 : decide ((j : Int) < ((ot.getD r.to []).length : Int)) = true := decide_eq_true (by omega)
    have hw := rws_at (ot.getD r.to []) hc1
    have hrv := hrowsT _ (getD_mem' hc1 [])
    have hpi := hpaok j
    have h25 := f25_spec (pa j) (keyN s r.to) ((ot.getD r.to []).getD j []) (fun x hx => (hpi.1 x hx).ok.rw (by omega)) (hrv.ok.rw (by omega)) hpi.2.2.1
    rw [← hpaS j hc1] at h25
    have hss : ((st.set r.to (pa j)).map fun t => [rwsD t]).set r.to [rwsD (pa (j + 1))] = (st.set r.to (pa (j + 1))).map fun t => [rwsD t] := by
      rw [List.map_set, List.map_set, List.set_set]
    generalize (ot.getD r.to []).getD j [] = rw at *
    generalize s.tables.getD r.to tbN = tb at *
    have hkn' : ((tb.key : Nat) : Int) = ((keyN s r.to : Nat) : Int) := by rw [hkn]
    repeat' first
      | refine awp_seq ?_
      | refine awp_block ?_
      | refine awp_skip ?_
      | (refine reg _ (by (simp only [List.map_cons, List.map_nil]; rfl)) rfl ?_; intro K hK)
      | (refine awp_cond _ (by rfl) ?_ ?_ <;> (intro hb; first | (cases hb; done) | (have ht : true = true := hb; clear ht hb) | (have ht : false = false := hb; clear ht hb) | (simp only [hb]) | skip))
      | (refine awp_exit ?_; simp only [thenA, blockA, scopeA, reduceIte, RetQ, Nat.reduceEqDiff])
      | (refine awp_ret ?_; simp only [thenA, blockA, scopeA, RetQ])
      | (refine ev_nil (hK _ ?_); clear hK K)
      | (apply ev_guardU; (case hj | hu | hσ => (simp only [go_sem, hy, hz, d2, hw, hnx, hss, hkn', hln]; try rfl)))
      | (refine ev_guardT _ _ (by (simp only [go_sem, hy, hz, d2, hw, hnx, hss, hkn', hln]; rfl)) (by (simp only [go_sem, hy, hz, d2, hw, hnx, hss, hkn', hln]; rfl)) ?_ ?_ <;> (intro hb; first | (cases hb; done) | (have ht : true = true := hb; clear ht hb) | (have ht : false = false := hb; clear ht hb) | (simp only [hb]) | skip))
      | (refine ev_guardF _ _ (by (simp only [go_sem, hy, hz, d2, hw, hnx, hss, hkn', hln]; rfl)) (by (simp only [go_sem, hy, hz, d2, hw, hnx, hss, hkn', hln]; rfl)) ?_ ?_ <;> (intro hb; first | (cases hb; done) | (have ht : true = true := hb; clear ht hb) | (have ht : false = false := hb; clear ht hb) | (simp only [hb]) | skip))
      | (apply ev_call0; (case hys => (simp only [go_sem, hy, hz, d2, hw, hnx, hss, hkn', hln]; try rfl)); (case hs => first | exact h25 ..); (case hok | hσ => (simp only [go_sem, hy, hz, d2, hw, hnx, hss, hkn', hln]; try rfl)))
      | (apply regD; (case hd => (simp only [List.map_cons, List.map_nil]; rfl)); (case hok => rfl); (case' h => (intro K hK; (repeat' first
        | (apply evd_nil; refine (hK _ ?_); clear hK K)
        | (apply evd_guardU0; (case hj | hu | hσ => (simp only [go_sem, hy, hz, d2, hw, hnx, hss, hkn', hln]; try rfl)))
        | (apply evd_guardU; (case hj | hu | hσ => (simp only [go_sem, hy, hz, d2, hw, hnx, hss, hkn', hln]; try rfl)))
        | (apply evd_skipT0; (case hj | hb | hσ => (simp only [go_sem, hy, hz, d2, hw, hnx, hss, hkn', hln]; try rfl)))
        | (apply evd_skipF0; (case hj | hb | hσ => (simp only [go_sem, hy, hz, d2, hw, hnx, hss, hkn', hln]; try rfl)))
        | (apply evd_skipT; (case hj | hb | hσ => (simp only [go_sem, hy, hz, d2, hw, hnx, hss, hkn', hln]; try rfl)))
        | (apply evd_skipF; (case hj | hb | hσ => (simp only [go_sem, hy, hz, d2, hw, hnx, hss, hkn', hln]; try rfl)))
        | (apply evd_guardT; (case hj | hb => (simp only [go_sem, hy, hz, d2, hw, hnx, hss, hkn', hln]; try rfl)); (case' h2 => (intro hb; first | (cases hb; done) | (simp only [hb]) | skip)); (case' h1 => (intro hb; first | (cases hb; done) | (simp only [hb]) | skip)))
        | (apply evd_guardF; (case hj | hb => (simp only [go_sem, hy, hz, d2, hw, hnx, hss, hkn', hln]; try rfl)); (case' h2 => (intro hb; first | (cases hb; done) | (simp only [hb]) | skip)); (case' h1 => (intro hb; first | (cases hb; done) | (simp only [hb]) | skip)))
        | (apply evd_call0; (case hi | hys => (simp only [go_sem, hy, hz, d2, hw, hnx, hss, hkn', hln]; try rfl)); (case hs => first | exact h25 ..); (case hok | hw | hσ => (simp only [go_sem, hy, hz, d2, hw, hnx, hss, hkn', hln]; try rfl)))
        | (apply evd_step0; (case hr | hi | hσ => (simp only [go_sem, hy, hz, d2, hw, hnx, hss, hkn', hln]; try rfl)); (case hc => (first | trivial | decide | (simp only [inB, sliceOk, appendOk, rowsOk]; omega) | (simp [inB, sliceOk, appendOk, rowsOk]; omega))))
        | (apply evd_step; (case hr | hi => (simp only [go_sem, hy, hz, d2, hw, hnx, hss, hkn', hln]; try rfl)); (case hc => (first | trivial | decide | (simp only [inB, sliceOk, appendOk, rowsOk]; omega) | (simp [inB, sliceOk, appendOk, rowsOk]; omega))); (case hw | hσ => (intro g u; simp only [go_sem, hy, hz, d2, hw, hnx, hss, hkn', hln]; try rfl)); (case' hk => (intro g u; (try clear u); (try clear g))))
        | fail))); (case hB => kernel_rfl))
      | (apply ev_step0; (case hr | hσ => (simp only [go_sem, hy, hz, d2, hw, hnx, hss, hkn', hln]; try rfl)); (case hc => (first | trivial | decide | (simp only [inB, sliceOk, appendOk, rowsOk]; omega) | (simp [inB, sliceOk, appendOk, rowsOk]; omega))))
      | (apply ev_step; (case hr => (simp only [go_sem, hy, hz, d2, hw, hnx, hss, hkn', hln]; try rfl)); (case hσ => (intro g u; simp only [go_sem, hy, hz, d2, hw, hnx, hss, hkn', hln]; try rfl)); (case hc => (first | trivial | decide | (simp only [inB, sliceOk, appendOk, rowsOk]; omega) | (simp [inB, sliceOk, appendOk, rowsOk]; omega))); intro g u; (try clear u); (try clear g))
      | fail
    refine Exists.intro (j + 1) ⟨by omega, by omega, ?_⟩
    refine Wk.mk ?_ ?_
    all_goals (repeat' first | exact trivial | exact LeA.refl _ | exact LeA.any _ | exact LeO.refl _ | exact LeO.no _ | exact LeA.nil _ | exact LeA.nilOwn _ | exact LeO.nil _ _ _ | refine LeO.box ?_ | (refine LeA.i ?_; (first | rfl | (push_cast; rfl) | (rw [wrap_id (by omega)]; push_cast; omega) | (simp [wrap_id]; omega))) | refine ⟨?_, ?_⟩)
  · have d2 : decide ((j : Int) < ((ot.getD r.to []).length : Int)) = false := decide_eq_false (by omega)
    have c17b := c17 _ (hnS j)
    rw [one_holds h sold kr hrm (hnS j) (fun x hx => by rw [getD_set' (by omega), if_neg (by omega)] at hx; exact hx) (fun x hx => by rw [getD_set' (by omega), if_pos rfl]; exact (hpaok j).2.2.2 x hx)] at c17b
    have d3 : ((r.to : Int) == (r.table : Int)) = false := by simp; omega
    have hv := stt_at st (i := r.table) (by omega)
    have hct2 := cnt_le (st := st) r.table
    generalize st.set r.to (pa j) = wide at *
    cases hn : decide (((st.getD r.table []).length : Int) > 0) with
    | false =>
      repeat' first
        | refine awp_seq ?_
        | refine awp_block ?_
        | refine awp_skip ?_
        | (refine reg _ (by (simp only [List.map_cons, List.map_nil]; rfl)) rfl ?_; intro K hK)
        | (refine awp_cond _ (by rfl) ?_ ?_ <;> (intro hb; first | (cases hb; done) | (have ht : true = true := hb; clear ht hb) | (have ht : false = false := hb; clear ht hb) | (simp only [hb]) | skip))
        | (refine awp_exit ?_; simp only [thenA, blockA, scopeA, reduceIte, RetQ, Nat.reduceEqDiff])
        | (refine awp_ret ?_; simp only [thenA, blockA, scopeA, RetQ])
        | (refine ev_nil (hK _ ?_); clear hK K)
        | (apply ev_guardU; (case hj | hu | hσ => (simp only [go_sem, hy, hz, d2, d3, hv, hn]; try rfl)))
        | (refine ev_guardT _ _ (by (simp only [go_sem, hy, hz, d2, d3, hv, hn]; rfl)) (by (simp only [go_sem, hy, hz, d2, d3, hv, hn]; rfl)) ?_ ?_ <;> (intro hb; first | (cases hb; done) | (have ht : true = true := hb; clear ht hb) | (have ht : false = false := hb; clear ht hb) | (simp only [hb]) | skip))
        | (refine ev_guardF _ _ (by (simp only [go_sem, hy, hz, d2, d3, hv, hn]; rfl)) (by (simp only [go_sem, hy, hz, d2, d3, hv, hn]; rfl)) ?_ ?_ <;> (intro hb; first | (cases hb; done) | (have ht : true = true := hb; clear ht hb) | (have ht : false = false := hb; clear ht hb) | (simp only [hb]) | skip))
        | (apply ev_call0; (case hys => (simp only [go_sem, hy, hz, d2, d3, hv, hn]; try rfl)); (case hs => first | exact c17a .. | exact c17b ..); (case hok | hσ => (simp only [go_sem, hy, hz, d2, d3, hv, hn]; try rfl)))
        | (apply regD; (case hd => (simp only [List.map_cons, List.map_nil]; rfl)); (case hok => rfl); (case' h => (intro K hK; (repeat' first
        | (apply evd_nil; refine (hK _ ?_); clear hK K)
        | (apply evd_guardU0; (case hj | hu | hσ => (simp only [go_sem, hy, hz, d2, d3, hv, hn]; try rfl)))
        | (apply evd_guardU; (case hj | hu | hσ => (simp only [go_sem, hy, hz, d2, d3, hv, hn]; try rfl)))
        | (apply evd_skipT0; (case hj | hb | hσ => (simp only [go_sem, hy, hz, d2, d3, hv, hn]; try rfl)))
        | (apply evd_skipF0; (case hj | hb | hσ => (simp only [go_sem, hy, hz, d2, d3, hv, hn]; try rfl)))
        | (apply evd_skipT; (case hj | hb | hσ => (simp only [go_sem, hy, hz, d2, d3, hv, hn]; try rfl)))
        | (apply evd_skipF; (case hj | hb | hσ => (simp only [go_sem, hy, hz, d2, d3, hv, hn]; try rfl)))
        | (apply evd_guardT; (case hj | hb => (simp only [go_sem, hy, hz, d2, d3, hv, hn]; try rfl)); (case' h2 => (intro hb; first | (cases hb; done) | (simp only [hb]) | skip)); (case' h1 => (intro hb; first | (cases hb; done) | (simp only [hb]) | skip)))
        | (apply evd_guardF; (case hj | hb => (simp only [go_sem, hy, hz, d2, d3, hv, hn]; try rfl)); (case' h2 => (intro hb; first | (cases hb; done) | (simp only [hb]) | skip)); (case' h1 => (intro hb; first | (cases hb; done) | (simp only [hb]) | skip)))
        | (apply evd_call0; (case hi | hys => (simp only [go_sem, hy, hz, d2, d3, hv, hn]; try rfl)); (case hs => first | exact c17a .. | exact c17b ..); (case hok | hw | hσ => (simp only [go_sem, hy, hz, d2, d3, hv, hn]; try rfl)))
        | (apply evd_step0; (case hr | hi | hσ => (simp only [go_sem, hy, hz, d2, d3, hv, hn]; try rfl)); (case hc => (first | trivial | decide | (simp only [inB, sliceOk, appendOk, rowsOk]; omega) | (simp [inB, sliceOk, appendOk, rowsOk]; omega))))
        | (apply evd_step; (case hr | hi => (simp only [go_sem, hy, hz, d2, d3, hv, hn]; try rfl)); (case hc => (first | trivial | decide | (simp only [inB, sliceOk, appendOk, rowsOk]; omega) | (simp [inB, sliceOk, appendOk, rowsOk]; omega))); (case hw | hσ => (intro g u; simp only [go_sem, hy, hz, d2, d3, hv, hn]; try rfl)); (case' hk => (intro g u; (try clear u); (try clear g))))
        | fail))); (case hB => kernel_rfl))
        | (apply ev_step0; (case hr | hσ => (simp only [go_sem, hy, hz, d2, d3, hv, hn]; try rfl)); (case hc => (first | trivial | decide | (simp only [inB, sliceOk, appendOk, rowsOk]; omega) | (simp [inB, sliceOk, appendOk, rowsOk]; omega))))
        | (apply ev_step; (case hr => (simp only [go_sem, hy, hz, d2, d3, hv, hn]; try rfl)); (case hσ => (intro g u; simp only [go_sem, hy, hz, d2, d3, hv, hn]; try rfl)); (case hc => (first | trivial | decide | (simp only [inB, sliceOk, appendOk, rowsOk]; omega) | (simp [inB, sliceOk, appendOk, rowsOk]; omega))); intro g u; (try clear u); (try clear g))
        | fail
      refine Exists.intro (i + 1) ⟨by omega, by omega, ?_⟩
      refine Wk.mk ?_ ?_
      all_goals (repeat' first | exact trivial | exact LeA.refl _ | exact LeA.any _ | exact LeO.refl _ | exact LeO.no _ | exact LeA.nil _ | exact LeA.nilOwn _ | exact LeO.nil _ _ _ | refine LeO.box ?_ | (refine LeA.i ?_; (first | rfl | (push_cast; rfl) | (rw [wrap_id (by omega)]; push_cast; omega) | (simp [wrap_id]; omega))) | refine ⟨?_, ?_⟩)
    | true =>
      have hlp : 0 < (st.getD r.table []).length := by have := of_decide_eq_true hn; omega
      obtain ⟨m, hm, hml⟩ := rem_nat (n := (st.getD r.table []).length) hkk.1 hlp
      have h26 := f26_spec st r.table m (by omega) (by omega) hml (by omega)
      have hnow := (hold.without hrr.1 m).sts (by have := cnt_without hold hrr.1 hml; omega)
      have c17c := c17 _ hnow
      rw [one_holds h sold kr hrm hnow (fun x hx => by
        unfold withoutR at hx
        rw [getD_set' (by omega), if_pos rfl] at hx
        exact (sub_without _ _).subset hx) (fun x hx => by
        unfold withoutR
        rw [getD_set' (by omega), if_neg (by omega)]; exact hx)] at c17c
      generalize withoutR st r.table m = now at *
      repeat' first
        | refine awp_seq ?_
        | refine awp_block ?_
        | refine awp_skip ?_
        | (refine reg _ (by (simp only [List.map_cons, List.map_nil]; rfl)) rfl ?_; intro K hK)
        | (refine awp_cond _ (by rfl) ?_ ?_ <;> (intro hb; first | (cases hb; done) | (have ht : true = true := hb; clear ht hb) | (have ht : false = false := hb; clear ht hb) | (simp only [hb]) | skip))
        | (refine awp_exit ?_; simp only [thenA, blockA, scopeA, reduceIte, RetQ, Nat.reduceEqDiff])
        | (refine awp_ret ?_; simp only [thenA, blockA, scopeA, RetQ])
        | (refine ev_nil (hK _ ?_); clear hK K)
        | (apply ev_guardU; (case hj | hu | hσ => (simp only [go_sem, hy, hz, d2, d3, hv, hn, wk, hm]; try rfl)))
        | (refine ev_guardT _ _ (by (simp only [go_sem, hy, hz, d2, d3, hv, hn, wk, hm]; rfl)) (by (simp only [go_sem, hy, hz, d2, d3, hv, hn, wk, hm]; rfl)) ?_ ?_ <;> (intro hb; first | (cases hb; done) | (have ht : true = true := hb; clear ht hb) | (have ht : false = false := hb; clear ht hb) | (simp only [hb]) | skip))
        | (refine ev_guardF _ _ (by (simp only [go_sem, hy, hz, d2, d3, hv, hn, wk, hm]; rfl)) (by (simp only [go_sem, hy, hz, d2, d3, hv, hn, wk, hm]; rfl)) ?_ ?_ <;> (intro hb; first | (cases hb; done) | (have ht : true = true := hb; clear ht hb) | (have ht : false = false := hb; clear ht hb) | (simp only [hb]) | skip))
        | (apply ev_call0; (case hys => (simp only [go_sem, hy, hz, d2, d3, hv, hn, wk, hm]; try rfl)); (case hs => first | exact c17a .. | exact c17b .. | exact h26 .. | exact c17c ..); (case hok | hσ => (simp only [go_sem, hy, hz, d2, d3, hv, hn, wk, hm]; try rfl)))
        | (apply regD; (case hd => (simp only [List.map_cons, List.map_nil]; rfl)); (case hok => rfl); (case' h => (intro K hK; (repeat' first
        | (apply evd_nil; refine (hK _ ?_); clear hK K)
        | (apply evd_guardU0; (case hj | hu | hσ => (simp only [go_sem, hy, hz, d2, d3, hv, hn, wk, hm]; try rfl)))
        | (apply evd_guardU; (case hj | hu | hσ => (simp only [go_sem, hy, hz, d2, d3, hv, hn, wk, hm]; try rfl)))
        | (apply evd_skipT0; (case hj | hb | hσ => (simp only [go_sem, hy, hz, d2, d3, hv, hn, wk, hm]; try rfl)))
        | (apply evd_skipF0; (case hj | hb | hσ => (simp only [go_sem, hy, hz, d2, d3, hv, hn, wk, hm]; try rfl)))
        | (apply evd_skipT; (case hj | hb | hσ => (simp only [go_sem, hy, hz, d2, d3, hv, hn, wk, hm]; try rfl)))
        | (apply evd_skipF; (case hj | hb | hσ => (simp only [go_sem, hy, hz, d2, d3, hv, hn, wk, hm]; try rfl)))
        | (apply evd_guardT; (case hj | hb => (simp only [go_sem, hy, hz, d2, d3, hv, hn, wk, hm]; try rfl)); (case' h2 => (intro hb; first | (cases hb; done) | (simp only [hb]) | skip)); (case' h1 => (intro hb; first | (cases hb; done) | (simp only [hb]) | skip)))
        | (apply evd_guardF; (case hj | hb => (simp only [go_sem, hy, hz, d2, d3, hv, hn, wk, hm]; try rfl)); (case' h2 => (intro hb; first | (cases hb; done) | (simp only [hb]) | skip)); (case' h1 => (intro hb; first | (cases hb; done) | (simp only [hb]) | skip)))
        | (apply evd_call0; (case hi | hys => (simp only [go_sem, hy, hz, d2, d3, hv, hn, wk, hm]; try rfl)); (case hs => first | exact c17a .. | exact c17b .. | exact h26 .. | exact c17c ..); (case hok | hw | hσ => (simp only [go_sem, hy, hz, d2, d3, hv, hn, wk, hm]; try rfl)))
        | (apply evd_step0; (case hr | hi | hσ => (simp only [go_sem, hy, hz, d2, d3, hv, hn, wk, hm]; try rfl)); (case hc => (first | trivial | decide | (simp only [inB, sliceOk, appendOk, rowsOk]; omega) | (simp [inB, sliceOk, appendOk, rowsOk]; omega))))
        | (apply evd_step; (case hr | hi => (simp only [go_sem, hy, hz, d2, d3, hv, hn, wk, hm]; try rfl)); (case hc => (first | trivial | decide | (simp only [inB, sliceOk, appendOk, rowsOk]; omega) | (simp [inB, sliceOk, appendOk, rowsOk]; omega))); (case hw | hσ => (intro g u; simp only [go_sem, hy, hz, d2, d3, hv, hn, wk, hm]; try rfl)); (case' hk => (intro g u; (try clear u); (try clear g))))
        | fail))); (case hB => kernel_rfl))
        | (apply ev_step0; (case hr | hσ => (simp only [go_sem, hy, hz, d2, d3, hv, hn, wk, hm]; try rfl)); (case hc => (first | trivial | decide | (simp only [inB, sliceOk, appendOk, rowsOk]; omega) | (simp [inB, sliceOk, appendOk, rowsOk]; omega))))
        | (apply ev_step; (case hr => (simp only [go_sem, hy, hz, d2, d3, hv, hn, wk, hm]; try rfl)); (case hσ => (intro g u; simp only [go_sem, hy, hz, d2, d3, hv, hn, wk, hm]; try rfl)); (case hc => (first | trivial | decide | (simp only [inB, sliceOk, appendOk, rowsOk]; omega) | (simp [inB, sliceOk, appendOk, rowsOk]; omega))); intro g u; (try clear u); (try clear g))
        | fail
      refine Exists.intro (i + 1) ⟨by omega, by omega, ?_⟩
      refine Wk.mk ?_ ?_
      all_goals (repeat' first | exact trivial | exact LeA.refl _ | exact LeA.any _ | exact LeO.refl _ | exact LeO.no _ | exact LeA.nil _ | exact LeA.nilOwn _ | exact LeO.nil _ _ _ | refine LeO.box ?_ | (refine LeA.i ?_; (first | rfl | (push_cast; rfl) | (rw [wrap_id (by omega)]; push_cast; omega) | (simp [wrap_id]; omega))) | refine ⟨?_, ?_⟩)
end
section
set_option linter.unusedVariables false
set_option linter.unusedSimpArgs false
/-- The law, for whatever reads as its arguments. -/
theorem law5_spec : ∀ dss, tyRs T 8 [24, 25, 5] dss → Spec Try.prog 5 (avTys T [24, 25, 5] dss) (.d (.lit (.bool true))) := by
  intro dss h
  obtain ⟨d0, r0, rfl, h0, h⟩ := tyRs_one h
  obtain ⟨d1, r1, rfl, h1, h⟩ := tyRs_one h
  obtain ⟨d2, r2, rfl, h2, h⟩ := tyRs_one h
  obtain rfl := tyRs_nil h
  obtain ⟨b, rfl, hb⟩ := ty24 h0
  obtain ⟨b0, b1, rfl, hb0, hb1⟩ := ty25 h1
  obtain ⟨k, rfl, hk⟩ := ty5 h2
  have := f5_spec b b0 b1 k hb hb0 hb1 hk
  simp only [avTys, avTy, T24, ti24, T25, ti25, T5, ti5, List.map_cons, List.map_nil, if_true]
  exact this
end
end Go.Proofs.Ytlkfbhhopkoopaa.A
