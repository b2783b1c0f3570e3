/- Plain: what it means that constraints hold. Data of the arguments' types. ConstraintMeaning: the walk. The law ConstraintMeaning. -/
import Derived.Test.YtlkfbhhopkoopaaY5
import Derived.Test.YtlkfbhhopkoopaaR2
namespace Go.Proofs.Ytlkfbhhopkoopaa.A
attribute [local go_sem] Nat.reduceAdd Nat.reduceSub Nat.reduceMul Nat.reduceLT Nat.reduceLeDiff Nat.reduceEqDiff Nat.reduceBEq reduceIte reduceCtorEq e_step_none e_slotU e_slotB e_move e_assign e_pick e_unOp e_binOp e_alloc e_box e_build e_buildSlice e_load e_store e_fieldAddr e_field e_indexAddr e_index e_slice e_makeSlice e_makeFunc e_convert e_extract e_nilCheck e_len e_append e_max e_min e_call e_callV e_fn e_cap_ptr e_cap_lit e_cap_sl e_cap_fn e_fnOf_clo e_fnOf_fn e_flat_fn e_clo e_ev_tmp e_ev_int e_ev_bool e_ev_string e_ev_slice e_ev_nilFunc e_ev_nilIface e_ev_pointer e_ev_agg e_ev_func e_pickT e_pickF e_not e_neg e_add e_sub e_mul e_quo e_rem e_eql e_neq e_lss e_leq e_gtr e_geq e_shl e_shr e_and e_or e_xor e_andNot e_beq e_bne e_sadd e_seql e_sneq e_b2_d e_b2_nil e_b2_nnil e_b2_agg e_lits_nil e_lits_cons e_litC e_eqR e_eqO_e e_eqO_n e_eqV4 e_eqV3 e_eqV2 e_eqV1 e_eqFs_nil e_eqFs_cons e_and2 e_eq1 e_eqL_i e_eqL_s e_eqL_b e_allocR e_boxR e_box_agg e_box_d e_box_own e_box_clo e_one_nil e_one_d e_one_own e_one_clo e_one_ptr e_cells_agg e_cells_d e_cells_own e_cells_clo e_cells_ptr e_ob_own e_ob_ptr e_ob_elo e_ob_d e_ob_el e_ob_agg e_load_box e_load_fzb e_load_el e_load_elo e_storeX_ptr e_storeX_d e_storeX_own e_storeX_agg e_storeX_el e_storeC' e_notIn_nil e_notIn_cons e_store_box e_storeB e_store_elo e_store_elo_agg e_storeE e_fa_ptr e_fa_el e_fa_elo e_faR e_fd e_fdR e_ia_d e_ia_row e_ia_fz e_ia_ptr e_ia_el e_ix_s e_ix_a e_len_s e_len_nil e_len_d e_len_row e_len_fz e_conv_i e_conv_s e_extr e_maxR e_minR e_nil_ptr e_nil_el e_nil_elo e_rows_nil e_rows_d e_rows_row e_rows_fz e_rok_nil e_rok_d e_rok_row e_rok_fz e_app_row e_appR e_app_nil e_appN e_make e_bnd_none e_bnd_some e_optmap_none e_optmap_some e_slR e_slRe e_sl_s e_sl_d e_sl_nil e_sl_row e_sl_fz e_fill_nil e_fill_cons e_fill1 e_placeS e_plS e_placeE e_buildO e_build1 e_build2 e_build3 e_bindD e_bs e_bsR e_allD_nil e_allD_cons e_allD_el e_allD_clo e_allD2 e_allD1 e_chunk0 e_chunkS e_clP_nil e_clP_cons e_cl_d e_cl_any e_cl_el e_cl_agg e_cl_tup e_cl_clo e_cl_own e_clOwn_row e_clOwn_fz e_cl_ptr e_clPtr_box e_clBox e_clPtr_fzb e_clL_nil e_clL_cons e_ok_d e_ok_any e_ok_el e_ok_agg e_ok_tup e_ok_clo e_ok_own e_okOwn_row e_okOwn_fz e_ok_ptr e_okPtr_box e_okPtr_fzb e_okL_nil e_okL_cons e_ids_d e_ids_any e_ids_el e_ids_own e_ids_ptr e_ids_agg e_ids_tup e_ids_clo e_idsL_nil e_idsL_cons e_frz_nil e_frz_cons e_frz_row e_frz_fz e_frz_fzb e_frz_box e_frzB e_flat_lit e_flat_sl e_flat_agg e_flat_tup e_flat_any e_flat_clo e_flatL_nil e_flatL_cons e_new_lit e_new_agg e_new_tup e_new_own e_newOwn_row e_newL_nil e_newL_cons e_objD e_setMany e_takeA e_zerosA e_gdL e_idsG e_idsOp e_callV' e_callN' e_callF' e_o_move e_o_assign e_o_pick e_o_unOp e_o_binOp e_o_alloc e_o_box e_o_build e_o_buildSlice e_o_load e_o_store e_o_fieldAddr e_o_field e_o_indexAddr e_o_index e_o_slice0 e_o_slice1 e_o_slice2 e_o_slice3 e_o_makeSlice e_o_makeFunc e_o_convert e_o_extract e_o_nilCheck e_o_bcall e_o_vcall litI litB litS
attribute [local go_sem] List.map_cons List.map_nil List.getD_cons_zero List.getD_cons_succ List.getD_nil List.getElem?_cons_zero List.getElem?_cons_succ List.getElem?_nil Option.getD_some Option.getD_none Option.map_some Option.map_none List.length_cons List.length_nil List.all_cons List.all_nil Bool.and_true Bool.true_and and_true true_and and_self List.take_zero List.take_succ_cons List.drop_zero List.drop_succ_cons List.nil_append List.cons_append List.append_nil List.replicate_succ List.replicate_zero List.flatten_cons List.flatten_nil Nat.zero_add Nat.add_zero Nat.mul_one Nat.zero_mul Nat.one_mul Nat.mul_zero List.set_cons_zero List.set_cons_succ List.foldl_cons List.foldl_nil appendOk rowsOk inB sliceOk cutRows mtake mdrop List.length_append List.length_take List.length_drop if_true if_false or_false or_true true_or Bool.not_true Bool.not_false Bool.false_eq_true List.length_map Int.toNat_natCast Int.toNat_zero Int.toNat_one eq_self St.after St.put applyEff R0 T1 T2 T3 T4 T5 T9 T15 T22 T24 T25 T26 T28 T29 T30 T32 T34 T36 T39 T42 T44 T47 T49 T51 T52 T54 T55 T57 T58 T60 T64 T68 T70 T72 T74 T76 T81 T83 T87 T90 T94 T97 T102 T113 T116 T119 T131 T134 T143 T145 T149 T151 T154 ti1 ti2 ti3 ti4 ti5 ti9 ti15 ti22 ti24 ti25 ti26 ti28 ti29 ti30 ti32 ti34 ti36 ti39 ti42 ti44 ti47 ti49 ti51 ti52 ti54 ti55 ti57 ti58 ti60 ti64 ti68 ti70 ti72 ti74 ti76 ti81 ti83 ti87 ti90 ti94 ti97 ti102 ti113 ti116 ti119 ti131 ti134 ti143 ti145 ti149 ti151 ti154
section
set_option linter.unusedVariables false
set_option linter.unusedSimpArgs false
open Go.RowKit
def cntN (p : Nat → Bool) : Nat → Nat
  | 0 => 0
  | k + 1 => cntN p k + if p k = true then 1 else 0
theorem cntN_le (p : Nat → Bool) : ∀ k, cntN p k ≤ k
  | 0 => Nat.le_refl _
  | k + 1 => by have := cntN_le p k; simp only [cntN]; split <;> omega
theorem cntN_full (p : Nat → Bool) : ∀ k, cntN p k = k ↔ ∀ j, j < k → p j = true
  | 0 => by simp [cntN]
  | k + 1 => by
    have h1 := cntN_le p k
    have h2 := cntN_full p k
    simp only [cntN]
    constructor
    · intro h j hj
      by_cases hp : p k = true
      · rw [if_pos hp] at h
        rcases Nat.lt_or_ge j k with hlt | hge
        · exact h2.1 (by omega) j hlt
        · have : j = k := by omega
          subst this; exact hp
      · rw [if_neg hp] at h; omega
    · intro h
      rw [if_pos (h k (by omega)), h2.2 fun j hj => h j (by omega)]
/-- Every value of the kind null is null. -/
def NulOk (st : Stt) : Prop := ∀ t, ∀ r ∈ st.getD t [], ∀ c ∈ r, c.v.k = 0 → c.v = nullV
theorem StV.nul {s : Sch} {st : Stt} (h : StV s st) : NulOk st := fun t r hr c hc hk => by
  rcases Nat.lt_or_ge t s.tables.length with ht | ht
  · exact ((h.rows t ht r hr).2 c hc).2.2.2 hk
  · rw [List.getD_eq_getElem?_getD, List.getElem?_eq_none (by rw [h.len]; exact ht)] at hr
    simp at hr
theorem odd_nul {s : Sch} {st : Stt} (h : NulOk st) (n : List Int) : NulOk (oddM s st n) := by
  unfold oddM
  cases s.totals with
  | nil => exact h
  | cons x xs =>
  intro t r hr c hc hk
  change r ∈ (st.set x.table (oddRows x.column n (st.getD x.table []))).getD t [] at hr
  rcases Nat.lt_or_ge x.table st.length with hl | hl
  · rw [getD_set' hl] at hr
    split at hr
    · simp only [oddRows, List.mem_map, List.mem_range] at hr
      obtain ⟨i, hi, rfl⟩ := hr
      have hm := getD_mem' hi []
      unfold oddRow at hc
      split at hc
      · rcases List.mem_or_eq_of_mem_set hc with hc | rfl
        · exact h _ _ hm c hc hk
        · exact absurd hk (by show ¬ (2 : Int) = 0; decide)
      · exact h _ _ hm c hc hk
    · exact h t r hr c hc hk
  · rw [List.set_eq_of_length_le hl] at hr
    exact h t r hr c hc hk
def nulP (c : Nat) (l : Rw) (k : Nat) : Bool := (l.getD (c + k) nullC).v.k == 0
def eqP (c : Nat) (l x : Rw) (k : Nat) : Bool := vlEq (l.getD (c + k) nullC).v (x.getD k nullC).v
/-- A row's reference is fine, counted value by value. -/
def fineL (w c : Nat) (to : List Rw) (l : Rw) : Bool := decide (cntN (nulP c l) w = w) || to.any fun x => decide (cntN (eqP c l x) w = w)
theorem toV_get {s : Sch} {r : Rf} {l : Rw} {k : Nat} (hl : r.column + keyN s r.to ≤ l.length) (hk : k < keyN s r.to) : (toV s r l).getD k nullV = (l.getD (r.column + k) nullC).v := by
  have : r.column + k < l.length := by omega
  simp [toV, keyR, List.getD_eq_getElem?_getD, List.getElem?_take, List.getElem?_drop, hk, this]
theorem keyR_get {l : Rw} {n k : Nat} (hl : n ≤ l.length) (hk : k < n) : (keyR l n).getD k nullV = (l.getD k nullC).v := by
  have : k < l.length := by omega
  simp [keyR, List.getD_eq_getElem?_getD, List.getElem?_take, hk, this]
theorem ext_getD {α : Type} {a b : List α} (d : α) (hl : a.length = b.length) (h : ∀ i, i < a.length → a.getD i d = b.getD i d) : a = b := by
  apply List.ext_getElem hl
  intro i h1 h2
  have := h i h1
  rwa [getD_get h1, getD_get h2] at this
theorem fine_eq {s : Sch} {st : Stt} {r : Rf} {l : Rw} (h : SchOk s) (hs : StS s st) (hn : NulOk st) (hr : r ∈ s.refs) (hlm : l ∈ st.getD r.table []) : fineL (keyN s r.to) r.column (st.getD r.to []) l = !brk s st r l := by
  have hrr := h.refs r hr
  have hl : r.column + keyN s r.to ≤ l.length := by rw [(hs.rows _ hrr.1 l hlm).1]; exact hrr.2.2
  have htl := toV_len (s := s) hl
  have e1 : cntN (nulP r.column l) (keyN s r.to) = keyN s r.to ↔ nothing (toV s r l) = true := by
    rw [cntN_full, nothing, List.all_eq_true]
    constructor
    · intro hp v hv
      obtain ⟨i, hi, rfl⟩ := List.getElem_of_mem hv
      rw [← getD_get hi nullV, toV_get hl (by omega), vlEq_iff]
      exact hn _ _ hlm _ (getD_mem' (by omega) nullC) (beq_iff_eq.1 (hp i (by omega)))
    · intro hp k hk
      have := hp _ (getD_mem' (l := toV s r l) (i := k) (by omega) nullV)
      rw [toV_get hl hk, vlEq_iff] at this
      rw [nulP, this]; rfl
  have e2 : ∀ x ∈ st.getD r.to [], (cntN (eqP r.column l x) (keyN s r.to) = keyN s r.to ↔ keyR x (keyN s r.to) = toV s r l) := fun x hx => by
    have hxl : keyN s r.to ≤ x.length := by
      have := h.keys r.to (by omega)
      rw [(hs.rows _ (by omega) x hx).1]; omega
    have hkl : (keyR x (keyN s r.to)).length = keyN s r.to := by rw [keyR_len]; omega
    rw [cntN_full]
    constructor
    · intro hp
      refine ext_getD nullV (by omega) fun i hi => ?_
      rw [keyR_get hxl (by omega), toV_get hl (by omega)]
      exact ((vlEq_iff _ _).1 (hp i (by omega))).symm
    · intro he k hk
      rw [eqP, vlEq_iff, ← toV_get hl hk, ← he, keyR_get hxl hk]
  rw [Bool.eq_iff_iff, Bool.not_eq_true', brk_iff hl, fineL, Bool.or_eq_true, decide_eq_true_eq, e1, List.any_eq_true]
  constructor
  · rintro (h | ⟨x, hx, hq⟩)
    · exact .inl h
    · exact .inr ⟨x, hx, (e2 x hx).1 (of_decide_eq_true hq)⟩
  · rintro (h | ⟨x, hx, hq⟩)
    · exact .inl h
    · exact .inr ⟨x, hx, decide_eq_true ((e2 x hx).2 hq)⟩
def fineRf (s : Sch) (st : Stt) (r : Rf) : Bool := (st.getD r.table []).all (fineL (keyN s r.to) r.column (st.getD r.to []))
theorem sum_over {s : Sch} {st : Stt} {t : Nat} (ht : t < s.totals.length) : ((sumIn s st (t : Int)).2 == 0 && (decide ((sumIn s st (t : Int)).1 ≥ (s.totals.getD t ttN).lo) && decide ((sumIn s st (t : Int)).1 ≤ (s.totals.getD t ttN).hi))) = !over st (s.totals.getD t ttN) := by
  unfold sumIn
  rw [if_neg (by omega), Int.toNat_natCast]
  generalize s.totals.getD t ttN = x
  unfold over
  cases small (sumOf st x) with
  | false => rfl
  | true =>
    simp only [if_true, Bool.not_true, Bool.false_or, Bool.not_or]
    rw [show ((0 : Int) == 0) = true from rfl, Bool.true_and]
    congr 1
    · rw [← decide_not]; congr 1; apply propext; omega
    · rw [← decide_not]; congr 1; apply propext; omega
theorem fine_all {s : Sch} {st : Stt} (h : SchOk s) (hs : StS s st) (hn : NulOk st) : (s.refs.all (fineRf s st) && s.totals.all fun t => !over st t) = holdsM s st := by
  rw [Bool.eq_iff_iff, Bool.and_eq_true, List.all_eq_true, List.all_eq_true, holds_iff]
  constructor
  · rintro ⟨h1, h2⟩
    refine ⟨fun r hr x hx => ?_, fun t ht => by simpa using h2 t ht⟩
    have := h1 r hr
    rw [fineRf, List.all_eq_true] at this
    have := this x hx
    rw [fine_eq h hs hn hr hx] at this
    simpa using this
  · rintro ⟨h1, h2⟩
    refine ⟨fun r hr => ?_, fun t ht => by simpa using h2 t ht⟩
    rw [fineRf, List.all_eq_true]
    intro x hx
    rw [fine_eq h hs hn hr hx, h1 r hr x hx]; rfl
theorem all_succ {α : Type} (p : α → Bool) (l : List α) (d : α) {i : Nat} (h : i < l.length) : (l.take (i + 1)).all p = ((l.take i).all p && p (l.getD i d)) := by
  rw [take_succ' l d h]; simp
theorem any_succ {α : Type} (p : α → Bool) (l : List α) (d : α) {i : Nat} (h : i < l.length) : (l.take (i + 1)).any p = ((l.take i).any p || p (l.getD i d)) := by
  rw [take_succ' l d h]; simp
end
section
set_option linter.unusedVariables false
set_option linter.unusedSimpArgs false
open Go.RowKit
theorem ty3 {f : Nat} {ds : List Dat} (h : tyR T (f + 1) 3 ds) : ∃ n : Int, ds = [.lit (.int .i64 n)] := by
  simp only [tyR, T3, ti3] at h
  obtain ⟨n, h1, _⟩ := h
  exact ⟨n, h1⟩
theorem ty5 {f : Nat} {ds : List Dat} (h : tyR T (f + 1) 5 ds) : ∃ n : Int, ds = [.lit (.int .u8 n)] ∧ 0 ≤ n ∧ n < 256 := by
  simp only [tyR, T5, ti5] at h
  obtain ⟨n, h1, h2⟩ := h
  have := bounds_u8 h2
  exact ⟨n, h1, by omega⟩
theorem cut_eqs {ds a r : List Dat} {k : Nat} (h1 : ds.take k = a) (h2 : ds.drop k = r) : ds = a ++ r := by
  rw [← h1, ← h2, List.take_append_drop]
theorem ty22 {f : Nat} {ds : List Dat} (h : tyR T (f + 2) 22 ds) : ∃ b : List Int, ds = [bytesD b] ∧ ∀ x ∈ b, 0 ≤ x ∧ x < 256 := by
  rw [tyR] at h
  simp only [T22, ti22, T5, ti5] at h
  obtain ⟨rows, rfl, h⟩ := h
  obtain ⟨l, rfl, hl⟩ := rows_of (f := fun n : Int => [Dat.lit (.int .u8 n)]) (Q := fun x => 0 ≤ x ∧ x < 256) h fun r hr => ty5 hr
  exact ⟨l, rfl, hl⟩
theorem ty26 {f : Nat} {ds : List Dat} (h : tyR T (f + 2) 26 ds) : ∃ b : List Int, ds = [ints b] := by
  rw [tyR] at h
  simp only [T26, ti26, T3, ti3] at h
  obtain ⟨rows, rfl, h⟩ := h
  obtain ⟨l, rfl, hl⟩ := rows_of (f := fun n : Int => [Dat.lit (.int .i64 n)]) (Q := fun x => True) h fun r hr => by
    obtain ⟨n, h⟩ := ty3 hr
    exact ⟨n, h, trivial⟩
  exact ⟨l, rfl⟩
theorem ty24 {f : Nat} {ds : List Dat} (h : tyR T (f + 3) 24 ds) : ∃ b : List Int, ds = [bytesD b] ∧ ∀ x ∈ b, 0 ≤ x ∧ x < 256 := by
  rw [tyR] at h
  simp only [T24, ti24, T22, ti22, List.map_cons, List.map_nil, StructR] at h
  obtain ⟨h1, h2⟩ := h
  obtain ⟨b, h1, hb⟩ := ty22 h1
  exact ⟨b, cut_eqs h1 h2, hb⟩
theorem ty25 {f : Nat} {ds : List Dat} (h : tyR T (f + 3) 25 ds) : ∃ b c : List Int, ds = [bytesD b, bytesD c] ∧ (∀ x ∈ b, 0 ≤ x ∧ x < 256) ∧ ∀ x ∈ c, 0 ≤ x ∧ x < 256 := by
  rw [tyR] at h
  simp only [T25, ti25, T22, ti22, List.replicate_succ, List.replicate_zero, StructR] at h
  obtain ⟨h1, h2, h3⟩ := h
  obtain ⟨b, h1, hb⟩ := ty22 h1
  obtain ⟨c, h2, hc⟩ := ty22 h2
  exact ⟨b, c, cut_eqs h1 (cut_eqs h2 h3), hb, hc⟩
theorem ty81 {f : Nat} {ds : List Dat} (h : tyR T (f + 2) 81 ds) : ∃ a b : Int, ds = [.lit (.int .u8 a), .lit (.int .u8 b)] ∧ (0 ≤ a ∧ a < 256) ∧ 0 ≤ b ∧ b < 256 := by
  rw [tyR] at h
  simp only [T81, ti81, T5, ti5, List.replicate_succ, List.replicate_zero, StructR] at h
  obtain ⟨h1, h2, h3⟩ := h
  obtain ⟨b, h1, hb⟩ := ty5 h1
  obtain ⟨c, h2, hc⟩ := ty5 h2
  exact ⟨b, c, cut_eqs h1 (cut_eqs h2 h3), hb, hc⟩
theorem ty87 {f : Nat} {ds : List Dat} (h : tyR T (f + 2) 87 ds) : ∃ a b c : Int, ds = [.lit (.int .u8 a), .lit (.int .u8 b), .lit (.int .u8 c)] ∧ (0 ≤ a ∧ a < 256) ∧ (0 ≤ b ∧ b < 256) ∧ 0 ≤ c ∧ c < 256 := by
  rw [tyR] at h
  simp only [T87, ti87, T5, ti5, List.replicate_succ, List.replicate_zero, StructR] at h
  obtain ⟨h1, h2, h3, h4⟩ := h
  obtain ⟨b, h1, hb⟩ := ty5 h1
  obtain ⟨c, h2, hc⟩ := ty5 h2
  obtain ⟨d, h3, hd⟩ := ty5 h3
  exact ⟨b, c, d, cut_eqs h1 (cut_eqs h2 (cut_eqs h3 h4)), hb, hc, hd⟩
theorem tyRs_one {f t : Nat} {ts : List Nat} {dss : List (List Dat)} (h : tyRs T f (t :: ts) dss) : ∃ ds r, dss = ds :: r ∧ tyR T f t ds ∧ tyRs T f ts r := by
  cases dss with
  | nil => exact h.elim
  | cons ds r => exact ⟨ds, r, rfl, h.1, h.2⟩
theorem tyRs_nil {f : Nat} {dss : List (List Dat)} (h : tyRs T f [] dss) : dss = [] := by
  cases dss with
  | nil => rfl
  | cons ds r => exact h.elim
end
section
set_option linter.unusedVariables false
set_option linter.unusedSimpArgs false
open Go.RowKit
attribute [local irreducible] AWp evOps evD
theorem int_beq (a b : Nat) : ((a : Int) == (b : Int)) = decide (a = b) := by
  rw [Bool.eq_iff_iff, beq_iff_eq, decide_eq_true_eq, Int.natCast_inj]
set_option maxHeartbeats 32000000 in
set_option maxRecDepth 10000 in
theorem f4_spec (b b0 n : List Int) (hb : ∀ x ∈ b, 0 ≤ x ∧ x < 256) (hb0 : ∀ x ∈ b0, 0 ≤ x ∧ x < 256) : Spec Try.prog 4 [.agg [.d (bytesD b)], .d (bytesD b0), .d (ints n)] (litB true) := by
  have h := madeS_ok hb
  have h10 := f10_spec b hb
  generalize madeS b = s at *
  have k0 := madeM_ok h hb0
  have h110 := f11_spec s b0 h hb0
  generalize madeM s b0 = st0 at *
  have s0 := k0.1.sts (by omega)
  have h130 := f13_spec s st0 n h s0.toStOk
  have hs := odd_sts h s0 n
  have hnul := odd_nul (s := s) k0.1.nul n
  generalize oddM s st0 n = st at *
  have hall := fine_all h hs hnul
  have h15 := f15_spec s st h hs
  have h17 := f17_spec s st h hs
  have hck : (checkR s st).length ≤ 10000 := checkR_len h hs.toStOk
  have hce : (((checkR s st).length : Int) == 0) = holdsM s st := by
    rw [holdsM]; cases checkR s st with
    | nil => rfl
    | cons x l => simp; omega
  generalize checkR s st = ck at *
  generalize holdsM s st = hd at *
  have hrl := h.rlen
  have htl := h.totlen
  have htb := h.tlen
  have hsl := hs.len
  obtain ⟨F, hF⟩ : ∃ F : Nat → Bool, ∀ i, (s.refs.take i).all (fineRf s st) = F i := ⟨_, fun _ => rfl⟩
  have hF0 : F 0 = true := by rw [← hF]; rfl
  have hFS : ∀ i, i < s.refs.length → F (i + 1) = (F i && fineRf s st (s.refs.getD i rfN)) := fun i hi => by
    rw [← hF, ← hF, all_succ _ _ rfN hi]
  obtain ⟨G, hG⟩ : ∃ G : Nat → Bool, ∀ i, (F s.refs.length && (s.totals.take i).all fun t => !over st t) = G i := ⟨_, fun _ => rfl⟩
  have hG0 : G 0 = F s.refs.length := by rw [← hG]; simp
  have hGS : ∀ i, i < s.totals.length → G (i + 1) = (G i && !over st (s.totals.getD i ttN)) := fun i hi => by
    rw [← hG, ← hG, all_succ _ _ ttN hi, Bool.and_assoc]
  have hGe : G s.totals.length = hd := by rw [← hG, ← hF, List.take_length, List.take_length, hall]
  clear hF hG hall
  refine spec_of_awp (fn := Try.f4) Try.func4 (by kernel_rfl) rfl ?_
  intro w0 C0
  simp only [Try.ntmps4, litI, litB, litS, List.length_cons, List.length_nil, Nat.reduceAdd, Nat.reduceSub, List.replicate_succ, List.replicate_zero, List.cons_append, List.nil_append]
  repeat' first
    | refine awp_seq ?_
    | refine awp_block ?_
    | refine awp_skip ?_
    | (refine reg _ (by (simp only [List.map_cons, List.map_nil]; rfl)) rfl ?_; intro K hK)
    | (refine awp_cond _ (by rfl) ?_ ?_ <;> (intro hb; first | (cases hb; done) | (have ht : true = true := hb; clear ht hb) | (have ht : false = false := hb; clear ht hb) | (simp only [hb]) | skip))
    | (refine awp_exit ?_; simp only [thenA, blockA, scopeA, reduceIte, RetQ, Nat.reduceEqDiff])
    | (refine awp_ret ?_; simp only [thenA, blockA, scopeA, RetQ])
    | (refine ev_nil (hK _ ?_); clear hK K)
    | (apply ev_guardU; (case hj | hu | hσ => (simp only [go_sem, Bool.and_false, Bool.false_and, Bool.and_self]; try rfl)))
    | (refine ev_guardT _ _ (by (simp only [go_sem, Bool.and_false, Bool.false_and, Bool.and_self]; rfl)) (by (simp only [go_sem, Bool.and_false, Bool.false_and, Bool.and_self]; rfl)) ?_ ?_ <;> (intro hb; first | (cases hb; done) | (have ht : true = true := hb; clear ht hb) | (have ht : false = false := hb; clear ht hb) | (simp only [hb]) | skip))
    | (refine ev_guardF _ _ (by (simp only [go_sem, Bool.and_false, Bool.false_and, Bool.and_self]; rfl)) (by (simp only [go_sem, Bool.and_false, Bool.false_and, Bool.and_self]; rfl)) ?_ ?_ <;> (intro hb; first | (cases hb; done) | (have ht : true = true := hb; clear ht hb) | (have ht : false = false := hb; clear ht hb) | (simp only [hb]) | skip))
    | (apply ev_call0; (case hys => (simp only [go_sem, Bool.and_false, Bool.false_and, Bool.and_self]; try rfl)); (case hs => first | exact f9_spec .. | exact h10 .. | exact h110 .. | exact h130 ..); (case hok | hσ => (simp only [go_sem, Bool.and_false, Bool.false_and, Bool.and_self]; try rfl)))
    | (apply regD; (case hd => (simp only [List.map_cons, List.map_nil]; rfl)); (case hok => rfl); (case' h => (intro K hK; (repeat' first
        | (apply evd_nil; refine (hK _ ?_); clear hK K)
        | (apply evd_guardU0; (case hj | hu | hσ => (simp only [go_sem, Bool.and_false, Bool.false_and, Bool.and_self]; try rfl)))
        | (apply evd_guardU; (case hj | hu | hσ => (simp only [go_sem, Bool.and_false, Bool.false_and, Bool.and_self]; try rfl)))
        | (apply evd_skipT0; (case hj | hb | hσ => (simp only [go_sem, Bool.and_false, Bool.false_and, Bool.and_self]; try rfl)))
        | (apply evd_skipF0; (case hj | hb | hσ => (simp only [go_sem, Bool.and_false, Bool.false_and, Bool.and_self]; try rfl)))
        | (apply evd_skipT; (case hj | hb | hσ => (simp only [go_sem, Bool.and_false, Bool.false_and, Bool.and_self]; try rfl)))
        | (apply evd_skipF; (case hj | hb | hσ => (simp only [go_sem, Bool.and_false, Bool.false_and, Bool.and_self]; try rfl)))
        | (apply evd_guardT; (case hj | hb => (simp only [go_sem, Bool.and_false, Bool.false_and, Bool.and_self]; try rfl)); (case' h2 => (intro hb; first | (cases hb; done) | (simp only [hb]) | skip)); (case' h1 => (intro hb; first | (cases hb; done) | (simp only [hb]) | skip)))
        | (apply evd_guardF; (case hj | hb => (simp only [go_sem, Bool.and_false, Bool.false_and, Bool.and_self]; try rfl)); (case' h2 => (intro hb; first | (cases hb; done) | (simp only [hb]) | skip)); (case' h1 => (intro hb; first | (cases hb; done) | (simp only [hb]) | skip)))
        | (apply evd_call0; (case hi | hys => (simp only [go_sem, Bool.and_false, Bool.false_and, Bool.and_self]; try rfl)); (case hs => first | exact f9_spec .. | exact h10 .. | exact h110 .. | exact h130 ..); (case hok | hw | hσ => (simp only [go_sem, Bool.and_false, Bool.false_and, Bool.and_self]; try rfl)))
        | (apply evd_step0; (case hr | hi | hσ => (simp only [go_sem, Bool.and_false, Bool.false_and, Bool.and_self]; try rfl)); (case hc => (first | trivial | decide | (simp only [inB, sliceOk, appendOk, rowsOk]; omega) | (simp [inB, sliceOk, appendOk, rowsOk]; omega))))
        | (apply evd_step; (case hr | hi => (simp only [go_sem, Bool.and_false, Bool.false_and, Bool.and_self]; try rfl)); (case hc => (first | trivial | decide | (simp only [inB, sliceOk, appendOk, rowsOk]; omega) | (simp [inB, sliceOk, appendOk, rowsOk]; omega))); (case hw | hσ => (intro g u; simp only [go_sem, Bool.and_false, Bool.false_and, Bool.and_self]; try rfl)); (case' hk => (intro g u; (try clear u); (try clear g))))
        | fail))); (case hB => kernel_rfl))
    | (apply ev_step0; (case hr | hσ => (simp only [go_sem, Bool.and_false, Bool.false_and, Bool.and_self]; try rfl)); (case hc => (first | trivial | decide | (simp only [inB, sliceOk, appendOk, rowsOk]; omega) | (simp [inB, sliceOk, appendOk, rowsOk]; omega))))
    | (apply ev_step; (case hr => (simp only [go_sem, Bool.and_false, Bool.false_and, Bool.and_self]; try rfl)); (case hσ => (intro g u; simp only [go_sem, Bool.and_false, Bool.false_and, Bool.and_self]; try rfl)); (case hc => (first | trivial | decide | (simp only [inB, sliceOk, appendOk, rowsOk]; omega) | (simp [inB, sliceOk, appendOk, rowsOk]; omega))); intro g u; (try clear u); (try clear g))
    | fail
  rename_i g3 g8
  revert g; intro g9
  clear h10 h110 h130
  refine awp_loopI (fun i : Nat => i ≤ s.refs.length) (fun i => s.refs.length - i) (fun i => ⟨[.any, .any, .any, .any, .any, .any, .any, litB true, .ptr 8 g8 0, .ptr 9 g9 0, litB (F i), litI .i64 i, .any, .any, .any, .any, .any, .any, .any, .any, .any, .any, .any, .any, .any, .any, .any, .any, .any, .any, .any, .any, .any, .any, .any, .any, .any, .any, .any, .any, .any, .any, .any, .any, .any, .any, .any, .any, .any, .any, .any, .any, .any, .any, .any, .any, .any, .any, .any, .any, .any, .any, .any, .any, .any, .any, .any, .any, .any, .any, .any, .any, .any, .any, .any, .any, .any, .any, .any, .any, .any, .any, .any, .any, .any, .any, .any, .any, .any, .any, .any, .any, .any, .any, .any, .any, .any, .any, .any, .any, .any, .any, .any, .any, .any, .any, .any, .any, .any, .any, .any, .any, .any, .any, .any, .any, .any, .any, .any, .any, .any, .any, .any, .any, .any, .any, .any, .any, .any, .any, .any, .any, .any, .any, .any, .any, .any, .any, .any, .any, .any, .any, .any, .any, .any, .any, .any, .any, .any, .any, .any, .any, .any, .any, .any, .any, .any, .any, .any, .any, .any, .any, .any, .any, .any, .any, .any, .any, .any, .any, .any, .any, .any, .any, .any, .any, .any, .any, .any, .any, .any, .any, .any, .any, .any, .any, .any, .any, .any, .any, .any, .any, .any, .any, .any, .any, .any, .any, .any, .any, .any, .any, .any, .any, .any, .any, .any, .any, .any, .any, .any, .any, .any, .any], [.no, .no, .no, .no, .no, .no, .no, .no, .box g8 (schA s), .box g9 (stA st), .no, .no, .no, .no, .no, .no, .no, .no, .no, .no, .no, .no, .no, .no, .no, .no, .no, .no, .no, .no, .no, .no, .no, .no, .no, .no, .no, .no, .no, .no, .no, .no, .no, .no, .no, .no, .no, .no, .no, .no, .no, .no, .no, .no, .no, .no, .no, .no, .no, .no, .no, .no, .no, .no, .no, .no, .no, .no, .no, .no, .no, .no, .no, .no, .no, .no, .no, .no, .no, .no, .no, .no, .no, .no, .no, .no, .no, .no, .no, .no, .no, .no, .no, .no, .no, .no, .no, .no, .no, .no, .no, .no, .no, .no, .no, .no, .no, .no, .no, .no, .no, .no, .no, .no, .no, .no, .no, .no, .no, .no, .no, .no, .no, .no, .no, .no, .no, .no, .no, .no, .no, .no, .no, .no, .no, .no, .no, .no, .no, .no, .no, .no, .no, .no, .no, .no, .no, .no, .no, .no, .no, .no, .no, .no, .no, .no, .no, .no, .no, .no, .no, .no, .no, .no, .no, .no, .no, .no, .no, .no, .no, .no, .no, .no, .no, .no, .no, .no, .no, .no, .no, .no, .no, .no, .no, .no, .no, .no, .no, .no, .no, .no, .no, .no, .no, .no, .no, .no, .no, .no, .no, .no, .no, .no, .no, .no, .no, .no, .no, .no, .no, .no, .no, .no]⟩) 0 (by omega) ?_ ?_
  · rw [hF0]
    refine Wk.mk ?_ ?_
    all_goals (repeat' first | exact trivial | exact LeA.refl _ | exact LeA.any _ | exact LeO.refl _ | exact LeO.no _ | exact LeA.nil _ | exact LeA.nilOwn _ | exact LeO.nil _ _ _ | refine LeO.box ?_ | (refine LeA.i ?_; (first | rfl | (push_cast; rfl) | (rw [wrap_id (by omega)]; push_cast; omega) | (simp [wrap_id]; omega))) | refine ⟨?_, ?_⟩)
  intro i hi
  simp only [litI, litB] at hi ⊢
  by_cases h1 : i < s.refs.length
  · have d1 : decide ((i : Int) < (s.refs.length : Int)) = true := decide_eq_true (by omega)
    have hx := rfs_at s.refs h1
    have hrm : s.refs.getD i rfN ∈ s.refs := getD_mem' h1 _
    have hFi := hFS i h1
    generalize s.refs.getD i rfN = r at *
    have hrr := h.refs r hrm
    have hto : r.to < s.tables.length := by omega
    have hy1 := stt_at st (i := r.table) (by omega)
    have hy2 := stt_at st (i := r.to) (by omega)
    have hz := tbs_at s.tables hto
    have hkn : (s.tables.getD r.to tbN).key = keyN s r.to := rfl
    have hkc := h.keys _ hto
    have hkc2 := h.keys _ hrr.1
    have hf1 := hs.few _ hrr.1
    have hf2 := hs.few _ hto
    have hr1 := hs.rows _ hrr.1
    have hr2 := hs.rows _ hto
    have hfr : fineRf s st r = (st.getD r.table []).all (fineL (keyN s r.to) r.column (st.getD r.to [])) := rfl
    rw [hfr] at hFi
    clear hfr
    generalize s.tables.getD r.to tbN = tb at *
    generalize st.getD r.table [] = fr at *
    generalize st.getD r.to [] = tt at *
    generalize keyN s r.to = w at *
    subst hkn
    repeat' first
      | refine awp_seq ?_
      | refine awp_block ?_
      | refine awp_skip ?_
      | (refine reg _ (by (simp only [List.map_cons, List.map_nil]; rfl)) rfl ?_; intro K hK)
      | (refine awp_cond _ (by rfl) ?_ ?_ <;> (intro hb; first | (cases hb; done) | (have ht : true = true := hb; clear ht hb) | (have ht : false = false := hb; clear ht hb) | (simp only [hb]) | skip))
      | (refine awp_exit ?_; simp only [thenA, blockA, scopeA, reduceIte, RetQ, Nat.reduceEqDiff])
      | (refine awp_ret ?_; simp only [thenA, blockA, scopeA, RetQ])
      | (refine ev_nil (hK _ ?_); clear hK K)
      | (apply ev_guardU; (case hj | hu | hσ => (simp only [go_sem, d1, hx, hy1, hy2, hz]; try rfl)))
      | (refine ev_guardT _ _ (by (simp only [go_sem, d1, hx, hy1, hy2, hz]; rfl)) (by (simp only [go_sem, d1, hx, hy1, hy2, hz]; rfl)) ?_ ?_ <;> (intro hb; first | (cases hb; done) | (have ht : true = true := hb; clear ht hb) | (have ht : false = false := hb; clear ht hb) | (simp only [hb]) | skip))
      | (refine ev_guardF _ _ (by (simp only [go_sem, d1, hx, hy1, hy2, hz]; rfl)) (by (simp only [go_sem, d1, hx, hy1, hy2, hz]; rfl)) ?_ ?_ <;> (intro hb; first | (cases hb; done) | (have ht : true = true := hb; clear ht hb) | (have ht : false = false := hb; clear ht hb) | (simp only [hb]) | skip))
      | (apply regD; (case hd => (simp only [List.map_cons, List.map_nil]; rfl)); (case hok => rfl); (case' h => (intro K hK; (repeat' first
        | (apply evd_nil; refine (hK _ ?_); clear hK K)
        | (apply evd_guardU0; (case hj | hu | hσ => (simp only [go_sem, d1, hx, hy1, hy2, hz]; try rfl)))
        | (apply evd_guardU; (case hj | hu | hσ => (simp only [go_sem, d1, hx, hy1, hy2, hz]; try rfl)))
        | (apply evd_skipT0; (case hj | hb | hσ => (simp only [go_sem, d1, hx, hy1, hy2, hz]; try rfl)))
        | (apply evd_skipF0; (case hj | hb | hσ => (simp only [go_sem, d1, hx, hy1, hy2, hz]; try rfl)))
        | (apply evd_skipT; (case hj | hb | hσ => (simp only [go_sem, d1, hx, hy1, hy2, hz]; try rfl)))
        | (apply evd_skipF; (case hj | hb | hσ => (simp only [go_sem, d1, hx, hy1, hy2, hz]; try rfl)))
        | (apply evd_guardT; (case hj | hb => (simp only [go_sem, d1, hx, hy1, hy2, hz]; try rfl)); (case' h2 => (intro hb; first | (cases hb; done) | (simp only [hb]) | skip)); (case' h1 => (intro hb; first | (cases hb; done) | (simp only [hb]) | skip)))
        | (apply evd_guardF; (case hj | hb => (simp only [go_sem, d1, hx, hy1, hy2, hz]; try rfl)); (case' h2 => (intro hb; first | (cases hb; done) | (simp only [hb]) | skip)); (case' h1 => (intro hb; first | (cases hb; done) | (simp only [hb]) | skip)))
        | (apply evd_step0; (case hr | hi | hσ => (simp only [go_sem, d1, hx, hy1, hy2, hz]; try rfl)); (case hc => (first | trivial | decide | (simp only [inB, sliceOk, appendOk, rowsOk]; omega) | (simp [inB, sliceOk, appendOk, rowsOk]; omega))))
        | (apply evd_step; (case hr | hi => (simp only [go_sem, d1, hx, hy1, hy2, hz]; try rfl)); (case hc => (first | trivial | decide | (simp only [inB, sliceOk, appendOk, rowsOk]; omega) | (simp [inB, sliceOk, appendOk, rowsOk]; omega))); (case hw | hσ => (intro g u; simp only [go_sem, d1, hx, hy1, hy2, hz]; try rfl)); (case' hk => (intro g u; (try clear u); (try clear g))))
        | fail))); (case hB => kernel_rfl))
      | (apply ev_step0; (case hr | hσ => (simp only [go_sem, d1, hx, hy1, hy2, hz]; try rfl)); (case hc => (first | trivial | decide | (simp only [inB, sliceOk, appendOk, rowsOk]; omega) | (simp [inB, sliceOk, appendOk, rowsOk]; omega))))
      | (apply ev_step; (case hr => (simp only [go_sem, d1, hx, hy1, hy2, hz]; try rfl)); (case hσ => (intro g u; simp only [go_sem, d1, hx, hy1, hy2, hz]; try rfl)); (case hc => (first | trivial | decide | (simp only [inB, sliceOk, appendOk, rowsOk]; omega) | (simp [inB, sliceOk, appendOk, rowsOk]; omega))); intro g u; (try clear u); (try clear g))
      | fail
    refine awp_loopI (fun j : Nat => j ≤ fr.length) (fun j => fr.length - j) (fun j => ⟨[.any, .any, .any, .any, .any, .any, .any, litB true, .ptr 8 g8 0, .ptr 9 g9 0, litB (F i && (fr.take j).all (fineL tb.key r.column tt)), litI .i64 i, .d (rwsD fr), .d (rwsD tt), litI .i64 (tb.key : Int), litI .i64 j, .any, .any, .any, .any, .any, .any, .any, .any, .any, .any, .any, .any, .any, .any, .any, .any, .any, .any, .any, .any, .any, .any, .any, .any, .any, .any, .any, .any, .any, .any, .any, .any, .any, .any, .any, .any, .any, .any, .any, .any, .any, .any, .any, .any, .any, .any, .any, .any, .any, .any, .any, .any, .any, .any, .any, .any, .any, .any, .any, .any, .any, .any, .any, .any, .any, .any, .any, .any, .any, .any, .any, .any, .any, .any, .any, .any, .any, .any, .any, .any, .any, .any, .any, .any, .any, .any, .any, .any, .any, .any, .any, .any, .any, .any, .any, .any, .any, .any, .any, .any, .any, .any, .any, .any, .any, .any, .any, .any, .any, .any, .any, .any, .any, .any, .any, .any, .any, .any, .any, .any, .any, .any, .any, .any, .any, .any, .any, .any, .any, .any, .any, .any, .any, .any, .any, .any, .any, .any, .any, .any, .any, .any, .any, .any, .any, .any, .any, .any, .any, .any, .any, .any, .any, .any, .any, .any, .any, .any, .any, .any, .any, .any, .any, .any, .any, .any, .any, .any, .any, .any, .any, .any, .any, .any, .any, .any, .any, .any, .any, .any, .any, .any, .any, .any, .any, .any, .any, .any, .any, .any, .any, .any, .any, .any, .any, .any, .any, .any], [.no, .no, .no, .no, .no, .no, .no, .no, .box g8 (schA s), .box g9 (stA st), .no, .no, .no, .no, .no, .no, .no, .no, .no, .no, .no, .no, .no, .no, .no, .no, .no, .no, .no, .no, .no, .no, .no, .no, .no, .no, .no, .no, .no, .no, .no, .no, .no, .no, .no, .no, .no, .no, .no, .no, .no, .no, .no, .no, .no, .no, .no, .no, .no, .no, .no, .no, .no, .no, .no, .no, .no, .no, .no, .no, .no, .no, .no, .no, .no, .no, .no, .no, .no, .no, .no, .no, .no, .no, .no, .no, .no, .no, .no, .no, .no, .no, .no, .no, .no, .no, .no, .no, .no, .no, .no, .no, .no, .no, .no, .no, .no, .no, .no, .no, .no, .no, .no, .no, .no, .no, .no, .no, .no, .no, .no, .no, .no, .no, .no, .no, .no, .no, .no, .no, .no, .no, .no, .no, .no, .no, .no, .no, .no, .no, .no, .no, .no, .no, .no, .no, .no, .no, .no, .no, .no, .no, .no, .no, .no, .no, .no, .no, .no, .no, .no, .no, .no, .no, .no, .no, .no, .no, .no, .no, .no, .no, .no, .no, .no, .no, .no, .no, .no, .no, .no, .no, .no, .no, .no, .no, .no, .no, .no, .no, .no, .no, .no, .no, .no, .no, .no, .no, .no, .no, .no, .no, .no, .no, .no, .no, .no, .no, .no, .no, .no, .no, .no, .no]⟩) 0 (by omega) ?_ ?_
    · rw [List.take_zero, List.all_nil, Bool.and_true]
      refine Wk.mk ?_ ?_
      all_goals (repeat' first | exact trivial | exact LeA.refl _ | exact LeA.any _ | exact LeO.refl _ | exact LeO.no _ | exact LeA.nil _ | exact LeA.nilOwn _ | exact LeO.nil _ _ _ | refine LeO.box ?_ | (refine LeA.i ?_; (first | rfl | (push_cast; rfl) | (rw [wrap_id (by omega)]; push_cast; omega) | (simp [wrap_id]; omega))) | refine ⟨?_, ?_⟩)
    intro j hj
    simp only [litI, litB] at hj ⊢
    by_cases h2 : j < fr.length
    rotate_left
    · have d2 : decide ((j : Int) < (fr.length : Int)) = false := decide_eq_false (by omega)
      rw [List.take_of_length_le (by omega), ← hFi]
      repeat' first
        | refine awp_seq ?_
        | refine awp_block ?_
        | refine awp_skip ?_
        | (refine reg _ (by (simp only [List.map_cons, List.map_nil]; rfl)) rfl ?_; intro K hK)
        | (refine awp_cond _ (by rfl) ?_ ?_ <;> (intro hb; first | (cases hb; done) | (have ht : true = true := hb; clear ht hb) | (have ht : false = false := hb; clear ht hb) | (simp only [hb]) | skip))
        | (refine awp_exit ?_; simp only [thenA, blockA, scopeA, reduceIte, RetQ, Nat.reduceEqDiff])
        | (refine awp_ret ?_; simp only [thenA, blockA, scopeA, RetQ])
        | (refine ev_nil (hK _ ?_); clear hK K)
        | (apply ev_guardU; (case hj | hu | hσ => (simp only [go_sem, d2]; try rfl)))
        | (refine ev_guardT _ _ (by (simp only [go_sem, d2]; rfl)) (by (simp only [go_sem, d2]; rfl)) ?_ ?_ <;> (intro hb; first | (cases hb; done) | (have ht : true = true := hb; clear ht hb) | (have ht : false = false := hb; clear ht hb) | (simp only [hb]) | skip))
        | (refine ev_guardF _ _ (by (simp only [go_sem, d2]; rfl)) (by (simp only [go_sem, d2]; rfl)) ?_ ?_ <;> (intro hb; first | (cases hb; done) | (have ht : true = true := hb; clear ht hb) | (have ht : false = false := hb; clear ht hb) | (simp only [hb]) | skip))
        | (apply regD; (case hd => (simp only [List.map_cons, List.map_nil]; rfl)); (case hok => rfl); (case' h => (intro K hK; (repeat' first
        | (apply evd_nil; refine (hK _ ?_); clear hK K)
        | (apply evd_guardU0; (case hj | hu | hσ => (simp only [go_sem, d2]; try rfl)))
        | (apply evd_guardU; (case hj | hu | hσ => (simp only [go_sem, d2]; try rfl)))
        | (apply evd_skipT0; (case hj | hb | hσ => (simp only [go_sem, d2]; try rfl)))
        | (apply evd_skipF0; (case hj | hb | hσ => (simp only [go_sem, d2]; try rfl)))
        | (apply evd_skipT; (case hj | hb | hσ => (simp only [go_sem, d2]; try rfl)))
        | (apply evd_skipF; (case hj | hb | hσ => (simp only [go_sem, d2]; try rfl)))
        | (apply evd_guardT; (case hj | hb => (simp only [go_sem, d2]; try rfl)); (case' h2 => (intro hb; first | (cases hb; done) | (simp only [hb]) | skip)); (case' h1 => (intro hb; first | (cases hb; done) | (simp only [hb]) | skip)))
        | (apply evd_guardF; (case hj | hb => (simp only [go_sem, d2]; try rfl)); (case' h2 => (intro hb; first | (cases hb; done) | (simp only [hb]) | skip)); (case' h1 => (intro hb; first | (cases hb; done) | (simp only [hb]) | skip)))
        | (apply evd_step0; (case hr | hi | hσ => (simp only [go_sem, d2]; try rfl)); (case hc => (first | trivial | decide | (simp only [inB, sliceOk, appendOk, rowsOk]; omega) | (simp [inB, sliceOk, appendOk, rowsOk]; omega))))
        | (apply evd_step; (case hr | hi => (simp only [go_sem, d2]; try rfl)); (case hc => (first | trivial | decide | (simp only [inB, sliceOk, appendOk, rowsOk]; omega) | (simp [inB, sliceOk, appendOk, rowsOk]; omega))); (case hw | hσ => (intro g u; simp only [go_sem, d2]; try rfl)); (case' hk => (intro g u; (try clear u); (try clear g))))
        | fail))); (case hB => kernel_rfl))
        | (apply ev_step0; (case hr | hσ => (simp only [go_sem, d2]; try rfl)); (case hc => (first | trivial | decide | (simp only [inB, sliceOk, appendOk, rowsOk]; omega) | (simp [inB, sliceOk, appendOk, rowsOk]; omega))))
        | (apply ev_step; (case hr => (simp only [go_sem, d2]; try rfl)); (case hσ => (intro g u; simp only [go_sem, d2]; try rfl)); (case hc => (first | trivial | decide | (simp only [inB, sliceOk, appendOk, rowsOk]; omega) | (simp [inB, sliceOk, appendOk, rowsOk]; omega))); intro g u; (try clear u); (try clear g))
        | fail
      refine Exists.intro (i + 1) ⟨by omega, by omega, ?_⟩
      refine Wk.mk ?_ ?_
      all_goals (repeat' first | exact trivial | exact LeA.refl _ | exact LeA.any _ | exact LeO.refl _ | exact LeO.no _ | exact LeA.nil _ | exact LeA.nilOwn _ | exact LeO.nil _ _ _ | refine LeO.box ?_ | (refine LeA.i ?_; (first | rfl | (push_cast; rfl) | (rw [wrap_id (by omega)]; push_cast; omega) | (simp [wrap_id]; omega))) | refine ⟨?_, ?_⟩)
    have d2 : decide ((j : Int) < (fr.length : Int)) = true := decide_eq_true (by omega)
    have hw := rws_at fr h2
    have hlr := hr1 _ (getD_mem' h2 [])
    have hsu := all_succ (fineL tb.key r.column tt) fr [] h2
    generalize fr.getD j [] = l at *
    have hll := hlr.1
    have hG1 : (F i && (fr.take (j + 1)).all (fineL tb.key r.column tt)) = ((F i && (fr.take j).all (fineL tb.key r.column tt)) && fineL tb.key r.column tt l) := by rw [hsu, Bool.and_assoc]
    generalize (F i && (fr.take j).all (fineL tb.key r.column tt)) = f1 at *
    repeat' first
      | refine awp_seq ?_
      | refine awp_block ?_
      | refine awp_skip ?_
      | (refine reg _ (by (simp only [List.map_cons, List.map_nil]; rfl)) rfl ?_; intro K hK)
      | (refine awp_cond _ (by rfl) ?_ ?_ <;> (intro hb; first | (cases hb; done) | (have ht : true = true := hb; clear ht hb) | (have ht : false = false := hb; clear ht hb) | (simp only [hb]) | skip))
      | (refine awp_exit ?_; simp only [thenA, blockA, scopeA, reduceIte, RetQ, Nat.reduceEqDiff])
      | (refine awp_ret ?_; simp only [thenA, blockA, scopeA, RetQ])
      | (refine ev_nil (hK _ ?_); clear hK K)
      | (apply ev_guardU; (case hj | hu | hσ => (simp only [go_sem, d2]; try rfl)))
      | (refine ev_guardT _ _ (by (simp only [go_sem, d2]; rfl)) (by (simp only [go_sem, d2]; rfl)) ?_ ?_ <;> (intro hb; first | (cases hb; done) | (have ht : true = true := hb; clear ht hb) | (have ht : false = false := hb; clear ht hb) | (simp only [hb]) | skip))
      | (refine ev_guardF _ _ (by (simp only [go_sem, d2]; rfl)) (by (simp only [go_sem, d2]; rfl)) ?_ ?_ <;> (intro hb; first | (cases hb; done) | (have ht : true = true := hb; clear ht hb) | (have ht : false = false := hb; clear ht hb) | (simp only [hb]) | skip))
      | (apply regD; (case hd => (simp only [List.map_cons, List.map_nil]; rfl)); (case hok => rfl); (case' h => (intro K hK; (repeat' first
        | (apply evd_nil; refine (hK _ ?_); clear hK K)
        | (apply evd_guardU0; (case hj | hu | hσ => (simp only [go_sem, d2]; try rfl)))
        | (apply evd_guardU; (case hj | hu | hσ => (simp only [go_sem, d2]; try rfl)))
        | (apply evd_skipT0; (case hj | hb | hσ => (simp only [go_sem, d2]; try rfl)))
        | (apply evd_skipF0; (case hj | hb | hσ => (simp only [go_sem, d2]; try rfl)))
        | (apply evd_skipT; (case hj | hb | hσ => (simp only [go_sem, d2]; try rfl)))
        | (apply evd_skipF; (case hj | hb | hσ => (simp only [go_sem, d2]; try rfl)))
        | (apply evd_guardT; (case hj | hb => (simp only [go_sem, d2]; try rfl)); (case' h2 => (intro hb; first | (cases hb; done) | (simp only [hb]) | skip)); (case' h1 => (intro hb; first | (cases hb; done) | (simp only [hb]) | skip)))
        | (apply evd_guardF; (case hj | hb => (simp only [go_sem, d2]; try rfl)); (case' h2 => (intro hb; first | (cases hb; done) | (simp only [hb]) | skip)); (case' h1 => (intro hb; first | (cases hb; done) | (simp only [hb]) | skip)))
        | (apply evd_step0; (case hr | hi | hσ => (simp only [go_sem, d2]; try rfl)); (case hc => (first | trivial | decide | (simp only [inB, sliceOk, appendOk, rowsOk]; omega) | (simp [inB, sliceOk, appendOk, rowsOk]; omega))))
        | (apply evd_step; (case hr | hi => (simp only [go_sem, d2]; try rfl)); (case hc => (first | trivial | decide | (simp only [inB, sliceOk, appendOk, rowsOk]; omega) | (simp [inB, sliceOk, appendOk, rowsOk]; omega))); (case hw | hσ => (intro g u; simp only [go_sem, d2]; try rfl)); (case' hk => (intro g u; (try clear u); (try clear g))))
        | fail))); (case hB => kernel_rfl))
      | (apply ev_step0; (case hr | hσ => (simp only [go_sem, d2]; try rfl)); (case hc => (first | trivial | decide | (simp only [inB, sliceOk, appendOk, rowsOk]; omega) | (simp [inB, sliceOk, appendOk, rowsOk]; omega))))
      | (apply ev_step; (case hr => (simp only [go_sem, d2]; try rfl)); (case hσ => (intro g u; simp only [go_sem, d2]; try rfl)); (case hc => (first | trivial | decide | (simp only [inB, sliceOk, appendOk, rowsOk]; omega) | (simp [inB, sliceOk, appendOk, rowsOk]; omega))); intro g u; (try clear u); (try clear g))
      | fail
    refine awp_loopI (fun k : Nat => k ≤ tb.key) (fun k => tb.key - k) (fun k => ⟨[.any, .any, .any, .any, .any, .any, .any, litB true, .ptr 8 g8 0, .ptr 9 g9 0, litB f1, litI .i64 i, .d (rwsD fr), .d (rwsD tt), litI .i64 (tb.key : Int), litI .i64 j, litI .i64 (cntN (nulP r.column l) k : Int), litB false, litI .i64 k, .any, .any, .any, .any, .any, .any, .any, .any, .any, .any, .any, .any, .any, .any, .any, .any, .any, .any, .any, .any, .any, .any, .any, .any, .any, .any, .any, .any, .any, .any, .any, .any, .any, .any, .any, .any, .any, .any, .any, .any, .any, .any, .any, .any, .any, .any, .any, .any, .any, .any, .any, .any, .any, .any, .any, .any, .any, .any, .any, .any, .any, .any, .any, .any, .any, .any, .any, .any, .any, .any, .any, .any, .any, .any, .any, .any, .any, .any, .any, .any, .any, .any, .any, .any, .any, .any, .any, .any, .any, .any, .any, .any, .any, .any, .any, .any, .any, .any, .any, .any, .any, .any, .any, .any, .any, .any, .any, .any, .any, .any, .any, .any, .any, .any, .any, .any, .any, .any, .any, .any, .any, .any, .any, .any, .any, .any, .any, .any, .any, .any, .any, .any, .any, .any, .any, .any, .any, .any, .any, .any, .any, .any, .any, .any, .any, .any, .any, .any, .any, .any, .any, .any, .any, .any, .any, .any, .any, .any, .any, .any, .any, .any, .any, .any, .any, .any, .any, .any, .any, .any, .any, .any, .any, .any, .any, .any, .any, .any, .any, .any, .any, .any, .any, .any, .any, .any, .any, .any, .any, .any, .any, .any, .any, .any, .any], [.no, .no, .no, .no, .no, .no, .no, .no, .box g8 (schA s), .box g9 (stA st), .no, .no, .no, .no, .no, .no, .no, .no, .no, .no, .no, .no, .no, .no, .no, .no, .no, .no, .no, .no, .no, .no, .no, .no, .no, .no, .no, .no, .no, .no, .no, .no, .no, .no, .no, .no, .no, .no, .no, .no, .no, .no, .no, .no, .no, .no, .no, .no, .no, .no, .no, .no, .no, .no, .no, .no, .no, .no, .no, .no, .no, .no, .no, .no, .no, .no, .no, .no, .no, .no, .no, .no, .no, .no, .no, .no, .no, .no, .no, .no, .no, .no, .no, .no, .no, .no, .no, .no, .no, .no, .no, .no, .no, .no, .no, .no, .no, .no, .no, .no, .no, .no, .no, .no, .no, .no, .no, .no, .no, .no, .no, .no, .no, .no, .no, .no, .no, .no, .no, .no, .no, .no, .no, .no, .no, .no, .no, .no, .no, .no, .no, .no, .no, .no, .no, .no, .no, .no, .no, .no, .no, .no, .no, .no, .no, .no, .no, .no, .no, .no, .no, .no, .no, .no, .no, .no, .no, .no, .no, .no, .no, .no, .no, .no, .no, .no, .no, .no, .no, .no, .no, .no, .no, .no, .no, .no, .no, .no, .no, .no, .no, .no, .no, .no, .no, .no, .no, .no, .no, .no, .no, .no, .no, .no, .no, .no, .no, .no, .no, .no, .no, .no, .no, .no]⟩) 0 (by omega) ?_ ?_
    · refine Wk.mk ?_ ?_
      all_goals (repeat' first | exact trivial | exact LeA.refl _ | exact LeA.any _ | exact LeO.refl _ | exact LeO.no _ | exact LeA.nil _ | exact LeA.nilOwn _ | exact LeO.nil _ _ _ | refine LeO.box ?_ | (refine LeA.i ?_; (first | rfl | (push_cast; rfl) | (rw [wrap_id (by omega)]; push_cast; omega) | (simp [wrap_id]; omega))) | refine ⟨?_, ?_⟩)
    intro k hk
    simp only [litI, litB] at hk ⊢
    by_cases h3 : k < tb.key
    · have d3 : decide ((k : Int) < (tb.key : Int)) = true := decide_eq_true (by omega)
      have hN : cntN (nulP r.column l) (k + 1) = cntN (nulP r.column l) k + if nulP r.column l k = true then 1 else 0 := rfl
      have hcle := cntN_le (nulP r.column l) k
      have hcl : r.column + k < l.length := by omega
      have hc := cls_at l hcl
      have w1 : IntKind.i64.wrap ((r.column : Int) + (k : Int)) = ((r.column + k : Nat) : Int) := by rw [wrap_id (by omega)]; push_cast; rfl
      have hE : nulP r.column l k = ((l.getD (r.column + k) nullC).v.k == 0) := rfl
      rw [hE] at hN
      clear hE
      generalize cntN (nulP r.column l) k = m at *
      generalize l.getD (r.column + k) nullC = c at *
      cases hq : (c.v.k == 0)
      all_goals
        simp only [hq, reduceIte, Bool.false_eq_true, Nat.add_zero] at hN
        repeat' first
          | refine awp_seq ?_
          | refine awp_block ?_
          | refine awp_skip ?_
          | (refine reg _ (by (simp only [List.map_cons, List.map_nil]; rfl)) rfl ?_; intro K hK)
          | (refine awp_cond _ (by rfl) ?_ ?_ <;> (intro hb; first | (cases hb; done) | (have ht : true = true := hb; clear ht hb) | (have ht : false = false := hb; clear ht hb) | (simp only [hb]) | skip))
          | (refine awp_exit ?_; simp only [thenA, blockA, scopeA, reduceIte, RetQ, Nat.reduceEqDiff])
          | (refine awp_ret ?_; simp only [thenA, blockA, scopeA, RetQ])
          | (refine ev_nil (hK _ ?_); clear hK K)
          | (apply ev_guardU; (case hj | hu | hσ => (simp only [go_sem, d3, hw, hx, w1, hc, hq]; try rfl)))
          | (refine ev_guardT _ _ (by (simp only [go_sem, d3, hw, hx, w1, hc, hq]; rfl)) (by (simp only [go_sem, d3, hw, hx, w1, hc, hq]; rfl)) ?_ ?_ <;> (intro hb; first | (cases hb; done) | (have ht : true = true := hb; clear ht hb) | (have ht : false = false := hb; clear ht hb) | (simp only [hb]) | skip))
          | (refine ev_guardF _ _ (by (simp only [go_sem, d3, hw, hx, w1, hc, hq]; rfl)) (by (simp only [go_sem, d3, hw, hx, w1, hc, hq]; rfl)) ?_ ?_ <;> (intro hb; first | (cases hb; done) | (have ht : true = true := hb; clear ht hb) | (have ht : false = false := hb; clear ht hb) | (simp only [hb]) | skip))
          | (apply regD; (case hd => (simp only [List.map_cons, List.map_nil]; rfl)); (case hok => rfl); (case' h => (intro K hK; (repeat' first
        | (apply evd_nil; refine (hK _ ?_); clear hK K)
        | (apply evd_guardU0; (case hj | hu | hσ => (simp only [go_sem, d3, hw, hx, w1, hc, hq]; try rfl)))
        | (apply evd_guardU; (case hj | hu | hσ => (simp only [go_sem, d3, hw, hx, w1, hc, hq]; try rfl)))
        | (apply evd_skipT0; (case hj | hb | hσ => (simp only [go_sem, d3, hw, hx, w1, hc, hq]; try rfl)))
        | (apply evd_skipF0; (case hj | hb | hσ => (simp only [go_sem, d3, hw, hx, w1, hc, hq]; try rfl)))
        | (apply evd_skipT; (case hj | hb | hσ => (simp only [go_sem, d3, hw, hx, w1, hc, hq]; try rfl)))
        | (apply evd_skipF; (case hj | hb | hσ => (simp only [go_sem, d3, hw, hx, w1, hc, hq]; try rfl)))
        | (apply evd_guardT; (case hj | hb => (simp only [go_sem, d3, hw, hx, w1, hc, hq]; try rfl)); (case' h2 => (intro hb; first | (cases hb; done) | (simp only [hb]) | skip)); (case' h1 => (intro hb; first | (cases hb; done) | (simp only [hb]) | skip)))
        | (apply evd_guardF; (case hj | hb => (simp only [go_sem, d3, hw, hx, w1, hc, hq]; try rfl)); (case' h2 => (intro hb; first | (cases hb; done) | (simp only [hb]) | skip)); (case' h1 => (intro hb; first | (cases hb; done) | (simp only [hb]) | skip)))
        | (apply evd_step0; (case hr | hi | hσ => (simp only [go_sem, d3, hw, hx, w1, hc, hq]; try rfl)); (case hc => (first | trivial | decide | (simp only [inB, sliceOk, appendOk, rowsOk]; omega) | (simp [inB, sliceOk, appendOk, rowsOk]; omega))))
        | (apply evd_step; (case hr | hi => (simp only [go_sem, d3, hw, hx, w1, hc, hq]; try rfl)); (case hc => (first | trivial | decide | (simp only [inB, sliceOk, appendOk, rowsOk]; omega) | (simp [inB, sliceOk, appendOk, rowsOk]; omega))); (case hw | hσ => (intro g u; simp only [go_sem, d3, hw, hx, w1, hc, hq]; try rfl)); (case' hk => (intro g u; (try clear u); (try clear g))))
        | fail))); (case hB => kernel_rfl))
          | (apply ev_step0; (case hr | hσ => (simp only [go_sem, d3, hw, hx, w1, hc, hq]; try rfl)); (case hc => (first | trivial | decide | (simp only [inB, sliceOk, appendOk, rowsOk]; omega) | (simp [inB, sliceOk, appendOk, rowsOk]; omega))))
          | (apply ev_step; (case hr => (simp only [go_sem, d3, hw, hx, w1, hc, hq]; try rfl)); (case hσ => (intro g u; simp only [go_sem, d3, hw, hx, w1, hc, hq]; try rfl)); (case hc => (first | trivial | decide | (simp only [inB, sliceOk, appendOk, rowsOk]; omega) | (simp [inB, sliceOk, appendOk, rowsOk]; omega))); intro g u; (try clear u); (try clear g))
          | fail
        refine Exists.intro (k + 1) ⟨by omega, by omega, ?_⟩
        simp only [hN]
        refine Wk.mk ?_ ?_
        all_goals (repeat' first | exact trivial | exact LeA.refl _ | exact LeA.any _ | exact LeO.refl _ | exact LeO.no _ | exact LeA.nil _ | exact LeA.nilOwn _ | exact LeO.nil _ _ _ | refine LeO.box ?_ | (refine LeA.i ?_; (first | rfl | (push_cast; rfl) | (rw [wrap_id (by omega)]; push_cast; omega) | (simp [wrap_id]; omega))) | refine ⟨?_, ?_⟩)
    have d3 : decide ((k : Int) < (tb.key : Int)) = false := decide_eq_false (by omega)
    have hke : k = tb.key := by omega
    subst hke
    have hnle := cntN_le (nulP r.column l) tb.key
    have hG2 : fineL tb.key r.column tt l = (((cntN (nulP r.column l) tb.key : Int) == (tb.key : Int)) || tt.any fun x => decide (cntN (eqP r.column l x) tb.key = tb.key)) := by
      rw [int_beq]; rfl
    rw [hG2] at hG1
    clear hG2
    generalize cntN (nulP r.column l) tb.key = nn at *
    obtain ⟨A, hA⟩ : ∃ A : Nat → Bool, ∀ i, ((tt.take i).any fun x => decide (cntN (eqP r.column l x) tb.key = tb.key)) = A i := ⟨_, fun _ => rfl⟩
    have hA0 : A 0 = false := by rw [← hA]; rfl
    have hAS : ∀ i, i < tt.length → A (i + 1) = (A i || ((cntN (eqP r.column l (tt.getD i [])) tb.key : Int) == (tb.key : Int))) := fun i hi => by
      rw [← hA, ← hA, any_succ _ _ [] hi, int_beq]
    have hAe : (tt.any fun x => decide (cntN (eqP r.column l x) tb.key = tb.key)) = A tt.length := by rw [← hA, List.take_length]
    rw [hAe] at hG1
    clear hA hAe
    repeat' first
      | refine awp_seq ?_
      | refine awp_block ?_
      | refine awp_skip ?_
      | (refine reg _ (by (simp only [List.map_cons, List.map_nil]; rfl)) rfl ?_; intro K hK)
      | (refine awp_cond _ (by rfl) ?_ ?_ <;> (intro hb; first | (cases hb; done) | (have ht : true = true := hb; clear ht hb) | (have ht : false = false := hb; clear ht hb) | (simp only [hb]) | skip))
      | (refine awp_exit ?_; simp only [thenA, blockA, scopeA, reduceIte, RetQ, Nat.reduceEqDiff])
      | (refine awp_ret ?_; simp only [thenA, blockA, scopeA, RetQ])
      | (refine ev_nil (hK _ ?_); clear hK K)
      | (apply ev_guardU; (case hj | hu | hσ => (simp only [go_sem, d3]; try rfl)))
      | (refine ev_guardT _ _ (by (simp only [go_sem, d3]; rfl)) (by (simp only [go_sem, d3]; rfl)) ?_ ?_ <;> (intro hb; first | (cases hb; done) | (have ht : true = true := hb; clear ht hb) | (have ht : false = false := hb; clear ht hb) | (simp only [hb]) | skip))
      | (refine ev_guardF _ _ (by (simp only [go_sem, d3]; rfl)) (by (simp only [go_sem, d3]; rfl)) ?_ ?_ <;> (intro hb; first | (cases hb; done) | (have ht : true = true := hb; clear ht hb) | (have ht : false = false := hb; clear ht hb) | (simp only [hb]) | skip))
      | (apply regD; (case hd => (simp only [List.map_cons, List.map_nil]; rfl)); (case hok => rfl); (case' h => (intro K hK; (repeat' first
        | (apply evd_nil; refine (hK _ ?_); clear hK K)
        | (apply evd_guardU0; (case hj | hu | hσ => (simp only [go_sem, d3]; try rfl)))
        | (apply evd_guardU; (case hj | hu | hσ => (simp only [go_sem, d3]; try rfl)))
        | (apply evd_skipT0; (case hj | hb | hσ => (simp only [go_sem, d3]; try rfl)))
        | (apply evd_skipF0; (case hj | hb | hσ => (simp only [go_sem, d3]; try rfl)))
        | (apply evd_skipT; (case hj | hb | hσ => (simp only [go_sem, d3]; try rfl)))
        | (apply evd_skipF; (case hj | hb | hσ => (simp only [go_sem, d3]; try rfl)))
        | (apply evd_guardT; (case hj | hb => (simp only [go_sem, d3]; try rfl)); (case' h2 => (intro hb; first | (cases hb; done) | (simp only [hb]) | skip)); (case' h1 => (intro hb; first | (cases hb; done) | (simp only [hb]) | skip)))
        | (apply evd_guardF; (case hj | hb => (simp only [go_sem, d3]; try rfl)); (case' h2 => (intro hb; first | (cases hb; done) | (simp only [hb]) | skip)); (case' h1 => (intro hb; first | (cases hb; done) | (simp only [hb]) | skip)))
        | (apply evd_step0; (case hr | hi | hσ => (simp only [go_sem, d3]; try rfl)); (case hc => (first | trivial | decide | (simp only [inB, sliceOk, appendOk, rowsOk]; omega) | (simp [inB, sliceOk, appendOk, rowsOk]; omega))))
        | (apply evd_step; (case hr | hi => (simp only [go_sem, d3]; try rfl)); (case hc => (first | trivial | decide | (simp only [inB, sliceOk, appendOk, rowsOk]; omega) | (simp [inB, sliceOk, appendOk, rowsOk]; omega))); (case hw | hσ => (intro g u; simp only [go_sem, d3]; try rfl)); (case' hk => (intro g u; (try clear u); (try clear g))))
        | fail))); (case hB => kernel_rfl))
      | (apply ev_step0; (case hr | hσ => (simp only [go_sem, d3]; try rfl)); (case hc => (first | trivial | decide | (simp only [inB, sliceOk, appendOk, rowsOk]; omega) | (simp [inB, sliceOk, appendOk, rowsOk]; omega))))
      | (apply ev_step; (case hr => (simp only [go_sem, d3]; try rfl)); (case hσ => (intro g u; simp only [go_sem, d3]; try rfl)); (case hc => (first | trivial | decide | (simp only [inB, sliceOk, appendOk, rowsOk]; omega) | (simp [inB, sliceOk, appendOk, rowsOk]; omega))); intro g u; (try clear u); (try clear g))
      | fail
    refine awp_loopI (fun m : Nat => m ≤ tt.length) (fun m => tt.length - m) (fun m => ⟨[.any, .any, .any, .any, .any, .any, .any, litB true, .ptr 8 g8 0, .ptr 9 g9 0, litB f1, litI .i64 i, .d (rwsD fr), .d (rwsD tt), litI .i64 (tb.key : Int), litI .i64 j, litI .i64 (nn : Int), litB (A m), .any, litI .i64 m, .any, .any, .any, .any, .any, .any, .any, .any, .any, .any, .any, .any, .any, .any, .any, .any, .any, .any, .any, .any, .any, .any, .any, .any, .any, .any, .any, .any, .any, .any, .any, .any, .any, .any, .any, .any, .any, .any, .any, .any, .any, .any, .any, .any, .any, .any, .any, .any, .any, .any, .any, .any, .any, .any, .any, .any, .any, .any, .any, .any, .any, .any, .any, .any, .any, .any, .any, .any, .any, .any, .any, .any, .any, .any, .any, .any, .any, .any, .any, .any, .any, .any, .any, .any, .any, .any, .any, .any, .any, .any, .any, .any, .any, .any, .any, .any, .any, .any, .any, .any, .any, .any, .any, .any, .any, .any, .any, .any, .any, .any, .any, .any, .any, .any, .any, .any, .any, .any, .any, .any, .any, .any, .any, .any, .any, .any, .any, .any, .any, .any, .any, .any, .any, .any, .any, .any, .any, .any, .any, .any, .any, .any, .any, .any, .any, .any, .any, .any, .any, .any, .any, .any, .any, .any, .any, .any, .any, .any, .any, .any, .any, .any, .any, .any, .any, .any, .any, .any, .any, .any, .any, .any, .any, .any, .any, .any, .any, .any, .any, .any, .any, .any, .any, .any, .any, .any, .any, .any, .any, .any, .any, .any, .any, .any], [.no, .no, .no, .no, .no, .no, .no, .no, .box g8 (schA s), .box g9 (stA st), .no, .no, .no, .no, .no, .no, .no, .no, .no, .no, .no, .no, .no, .no, .no, .no, .no, .no, .no, .no, .no, .no, .no, .no, .no, .no, .no, .no, .no, .no, .no, .no, .no, .no, .no, .no, .no, .no, .no, .no, .no, .no, .no, .no, .no, .no, .no, .no, .no, .no, .no, .no, .no, .no, .no, .no, .no, .no, .no, .no, .no, .no, .no, .no, .no, .no, .no, .no, .no, .no, .no, .no, .no, .no, .no, .no, .no, .no, .no, .no, .no, .no, .no, .no, .no, .no, .no, .no, .no, .no, .no, .no, .no, .no, .no, .no, .no, .no, .no, .no, .no, .no, .no, .no, .no, .no, .no, .no, .no, .no, .no, .no, .no, .no, .no, .no, .no, .no, .no, .no, .no, .no, .no, .no, .no, .no, .no, .no, .no, .no, .no, .no, .no, .no, .no, .no, .no, .no, .no, .no, .no, .no, .no, .no, .no, .no, .no, .no, .no, .no, .no, .no, .no, .no, .no, .no, .no, .no, .no, .no, .no, .no, .no, .no, .no, .no, .no, .no, .no, .no, .no, .no, .no, .no, .no, .no, .no, .no, .no, .no, .no, .no, .no, .no, .no, .no, .no, .no, .no, .no, .no, .no, .no, .no, .no, .no, .no, .no, .no, .no, .no, .no, .no, .no]⟩) 0 (by omega) ?_ ?_
    · rw [hA0]
      refine Wk.mk ?_ ?_
      all_goals (repeat' first | exact trivial | exact LeA.refl _ | exact LeA.any _ | exact LeO.refl _ | exact LeO.no _ | exact LeA.nil _ | exact LeA.nilOwn _ | exact LeO.nil _ _ _ | refine LeO.box ?_ | (refine LeA.i ?_; (first | rfl | (push_cast; rfl) | (rw [wrap_id (by omega)]; push_cast; omega) | (simp [wrap_id]; omega))) | refine ⟨?_, ?_⟩)
    intro m hm
    simp only [litI, litB] at hm ⊢
    by_cases h4 : m < tt.length
    rotate_left
    · have d4 : decide ((m : Int) < (tt.length : Int)) = false := decide_eq_false (by omega)
      have hme : m = tt.length := by omega
      subst hme
      generalize A tt.length = q1 at *
      obtain ⟨b2, hq2⟩ : ∃ b, ((nn : Int) == (tb.key : Int)) = b := ⟨_, rfl⟩
      rw [hq2] at hG1
      cases f1
      rotate_left
      cases b2
      all_goals
        simp only [Bool.false_and, Bool.true_and, Bool.true_or, Bool.false_or] at hG1
        repeat' first
          | refine awp_seq ?_
          | refine awp_block ?_
          | refine awp_skip ?_
          | (refine reg _ (by (simp only [List.map_cons, List.map_nil]; rfl)) rfl ?_; intro K hK)
          | (refine awp_cond _ (by rfl) ?_ ?_ <;> (intro hb; first | (cases hb; done) | (have ht : true = true := hb; clear ht hb) | (have ht : false = false := hb; clear ht hb) | (simp only [hb]) | skip))
          | (refine awp_exit ?_; simp only [thenA, blockA, scopeA, reduceIte, RetQ, Nat.reduceEqDiff])
          | (refine awp_ret ?_; simp only [thenA, blockA, scopeA, RetQ])
          | (refine ev_nil (hK _ ?_); clear hK K)
          | (apply ev_guardU; (case hj | hu | hσ => (simp only [go_sem, d4, hq2]; try rfl)))
          | (refine ev_guardT _ _ (by (simp only [go_sem, d4, hq2]; rfl)) (by (simp only [go_sem, d4, hq2]; rfl)) ?_ ?_ <;> (intro hb; first | (cases hb; done) | (have ht : true = true := hb; clear ht hb) | (have ht : false = false := hb; clear ht hb) | (simp only [hb]) | skip))
          | (refine ev_guardF _ _ (by (simp only [go_sem, d4, hq2]; rfl)) (by (simp only [go_sem, d4, hq2]; rfl)) ?_ ?_ <;> (intro hb; first | (cases hb; done) | (have ht : true = true := hb; clear ht hb) | (have ht : false = false := hb; clear ht hb) | (simp only [hb]) | skip))
          | (apply regD; (case hd => (simp only [List.map_cons, List.map_nil]; rfl)); (case hok => rfl); (case' h => (intro K hK; (repeat' first
        | (apply evd_nil; refine (hK _ ?_); clear hK K)
        | (apply evd_guardU0; (case hj | hu | hσ => (simp only [go_sem, d4, hq2]; try rfl)))
        | (apply evd_guardU; (case hj | hu | hσ => (simp only [go_sem, d4, hq2]; try rfl)))
        | (apply evd_skipT0; (case hj | hb | hσ => (simp only [go_sem, d4, hq2]; try rfl)))
        | (apply evd_skipF0; (case hj | hb | hσ => (simp only [go_sem, d4, hq2]; try rfl)))
        | (apply evd_skipT; (case hj | hb | hσ => (simp only [go_sem, d4, hq2]; try rfl)))
        | (apply evd_skipF; (case hj | hb | hσ => (simp only [go_sem, d4, hq2]; try rfl)))
        | (apply evd_guardT; (case hj | hb => (simp only [go_sem, d4, hq2]; try rfl)); (case' h2 => (intro hb; first | (cases hb; done) | (simp only [hb]) | skip)); (case' h1 => (intro hb; first | (cases hb; done) | (simp only [hb]) | skip)))
        | (apply evd_guardF; (case hj | hb => (simp only [go_sem, d4, hq2]; try rfl)); (case' h2 => (intro hb; first | (cases hb; done) | (simp only [hb]) | skip)); (case' h1 => (intro hb; first | (cases hb; done) | (simp only [hb]) | skip)))
        | (apply evd_step0; (case hr | hi | hσ => (simp only [go_sem, d4, hq2]; try rfl)); (case hc => (first | trivial | decide | (simp only [inB, sliceOk, appendOk, rowsOk]; omega) | (simp [inB, sliceOk, appendOk, rowsOk]; omega))))
        | (apply evd_step; (case hr | hi => (simp only [go_sem, d4, hq2]; try rfl)); (case hc => (first | trivial | decide | (simp only [inB, sliceOk, appendOk, rowsOk]; omega) | (simp [inB, sliceOk, appendOk, rowsOk]; omega))); (case hw | hσ => (intro g u; simp only [go_sem, d4, hq2]; try rfl)); (case' hk => (intro g u; (try clear u); (try clear g))))
        | fail))); (case hB => kernel_rfl))
          | (apply ev_step0; (case hr | hσ => (simp only [go_sem, d4, hq2]; try rfl)); (case hc => (first | trivial | decide | (simp only [inB, sliceOk, appendOk, rowsOk]; omega) | (simp [inB, sliceOk, appendOk, rowsOk]; omega))))
          | (apply ev_step; (case hr => (simp only [go_sem, d4, hq2]; try rfl)); (case hσ => (intro g u; simp only [go_sem, d4, hq2]; try rfl)); (case hc => (first | trivial | decide | (simp only [inB, sliceOk, appendOk, rowsOk]; omega) | (simp [inB, sliceOk, appendOk, rowsOk]; omega))); intro g u; (try clear u); (try clear g))
          | fail
        refine Exists.intro (j + 1) ⟨by omega, by omega, ?_⟩
        rw [hG1]
        refine Wk.mk ?_ ?_
        all_goals (repeat' first | exact trivial | exact LeA.refl _ | exact LeA.any _ | exact LeO.refl _ | exact LeO.no _ | exact LeA.nil _ | exact LeA.nilOwn _ | exact LeO.nil _ _ _ | refine LeO.box ?_ | (refine LeA.i ?_; (first | rfl | (push_cast; rfl) | (rw [wrap_id (by omega)]; push_cast; omega) | (simp [wrap_id]; omega))) | refine ⟨?_, ?_⟩)
    have d4 : decide ((m : Int) < (tt.length : Int)) = true := decide_eq_true (by omega)
    have hu := rws_at tt h4
    have hxr := hr2 _ (getD_mem' h4 [])
    have hAm := hAS m h4
    generalize tt.getD m [] = x at *
    have hxl := hxr.1
    generalize A m = a1 at *
    repeat' first
      | refine awp_seq ?_
      | refine awp_block ?_
      | refine awp_skip ?_
      | (refine reg _ (by (simp only [List.map_cons, List.map_nil]; rfl)) rfl ?_; intro K hK)
      | (refine awp_cond _ (by rfl) ?_ ?_ <;> (intro hb; first | (cases hb; done) | (have ht : true = true := hb; clear ht hb) | (have ht : false = false := hb; clear ht hb) | (simp only [hb]) | skip))
      | (refine awp_exit ?_; simp only [thenA, blockA, scopeA, reduceIte, RetQ, Nat.reduceEqDiff])
      | (refine awp_ret ?_; simp only [thenA, blockA, scopeA, RetQ])
      | (refine ev_nil (hK _ ?_); clear hK K)
      | (apply ev_guardU; (case hj | hu | hσ => (simp only [go_sem, d4]; try rfl)))
      | (refine ev_guardT _ _ (by (simp only [go_sem, d4]; rfl)) (by (simp only [go_sem, d4]; rfl)) ?_ ?_ <;> (intro hb; first | (cases hb; done) | (have ht : true = true := hb; clear ht hb) | (have ht : false = false := hb; clear ht hb) | (simp only [hb]) | skip))
      | (refine ev_guardF _ _ (by (simp only [go_sem, d4]; rfl)) (by (simp only [go_sem, d4]; rfl)) ?_ ?_ <;> (intro hb; first | (cases hb; done) | (have ht : true = true := hb; clear ht hb) | (have ht : false = false := hb; clear ht hb) | (simp only [hb]) | skip))
      | (apply regD; (case hd => (simp only [List.map_cons, List.map_nil]; rfl)); (case hok => rfl); (case' h => (intro K hK; (repeat' first
        | (apply evd_nil; refine (hK _ ?_); clear hK K)
        | (apply evd_guardU0; (case hj | hu | hσ => (simp only [go_sem, d4]; try rfl)))
        | (apply evd_guardU; (case hj | hu | hσ => (simp only [go_sem, d4]; try rfl)))
        | (apply evd_skipT0; (case hj | hb | hσ => (simp only [go_sem, d4]; try rfl)))
        | (apply evd_skipF0; (case hj | hb | hσ => (simp only [go_sem, d4]; try rfl)))
        | (apply evd_skipT; (case hj | hb | hσ => (simp only [go_sem, d4]; try rfl)))
        | (apply evd_skipF; (case hj | hb | hσ => (simp only [go_sem, d4]; try rfl)))
        | (apply evd_guardT; (case hj | hb => (simp only [go_sem, d4]; try rfl)); (case' h2 => (intro hb; first | (cases hb; done) | (simp only [hb]) | skip)); (case' h1 => (intro hb; first | (cases hb; done) | (simp only [hb]) | skip)))
        | (apply evd_guardF; (case hj | hb => (simp only [go_sem, d4]; try rfl)); (case' h2 => (intro hb; first | (cases hb; done) | (simp only [hb]) | skip)); (case' h1 => (intro hb; first | (cases hb; done) | (simp only [hb]) | skip)))
        | (apply evd_step0; (case hr | hi | hσ => (simp only [go_sem, d4]; try rfl)); (case hc => (first | trivial | decide | (simp only [inB, sliceOk, appendOk, rowsOk]; omega) | (simp [inB, sliceOk, appendOk, rowsOk]; omega))))
        | (apply evd_step; (case hr | hi => (simp only [go_sem, d4]; try rfl)); (case hc => (first | trivial | decide | (simp only [inB, sliceOk, appendOk, rowsOk]; omega) | (simp [inB, sliceOk, appendOk, rowsOk]; omega))); (case hw | hσ => (intro g u; simp only [go_sem, d4]; try rfl)); (case' hk => (intro g u; (try clear u); (try clear g))))
        | fail))); (case hB => kernel_rfl))
      | (apply ev_step0; (case hr | hσ => (simp only [go_sem, d4]; try rfl)); (case hc => (first | trivial | decide | (simp only [inB, sliceOk, appendOk, rowsOk]; omega) | (simp [inB, sliceOk, appendOk, rowsOk]; omega))))
      | (apply ev_step; (case hr => (simp only [go_sem, d4]; try rfl)); (case hσ => (intro g u; simp only [go_sem, d4]; try rfl)); (case hc => (first | trivial | decide | (simp only [inB, sliceOk, appendOk, rowsOk]; omega) | (simp [inB, sliceOk, appendOk, rowsOk]; omega))); intro g u; (try clear u); (try clear g))
      | fail
    refine awp_loopI (fun k : Nat => k ≤ tb.key) (fun k => tb.key - k) (fun k => ⟨[.any, .any, .any, .any, .any, .any, .any, litB true, .ptr 8 g8 0, .ptr 9 g9 0, litB f1, litI .i64 i, .d (rwsD fr), .d (rwsD tt), litI .i64 (tb.key : Int), litI .i64 j, litI .i64 (nn : Int), litB a1, .any, litI .i64 m, litI .i64 (cntN (eqP r.column l x) k : Int), litI .i64 k, .any, .any, .any, .any, .any, .any, .any, .any, .any, .any, .any, .any, .any, .any, .any, .any, .any, .any, .any, .any, .any, .any, .any, .any, .any, .any, .any, .any, .any, .any, .any, .any, .any, .any, .any, .any, .any, .any, .any, .any, .any, .any, .any, .any, .any, .any, .any, .any, .any, .any, .any, .any, .any, .any, .any, .any, .any, .any, .any, .any, .any, .any, .any, .any, .any, .any, .any, .any, .any, .any, .any, .any, .any, .any, .any, .any, .any, .any, .any, .any, .any, .any, .any, .any, .any, .any, .any, .any, .any, .any, .any, .any, .any, .any, .any, .any, .any, .any, .any, .any, .any, .any, .any, .any, .any, .any, .any, .any, .any, .any, .any, .any, .any, .any, .any, .any, .any, .any, .any, .any, .any, .any, .any, .any, .any, .any, .any, .any, .any, .any, .any, .any, .any, .any, .any, .any, .any, .any, .any, .any, .any, .any, .any, .any, .any, .any, .any, .any, .any, .any, .any, .any, .any, .any, .any, .any, .any, .any, .any, .any, .any, .any, .any, .any, .any, .any, .any, .any, .any, .any, .any, .any, .any, .any, .any, .any, .any, .any, .any, .any, .any, .any, .any, .any, .any, .any, .any, .any, .any, .any, .any, .any], [.no, .no, .no, .no, .no, .no, .no, .no, .box g8 (schA s), .box g9 (stA st), .no, .no, .no, .no, .no, .no, .no, .no, .no, .no, .no, .no, .no, .no, .no, .no, .no, .no, .no, .no, .no, .no, .no, .no, .no, .no, .no, .no, .no, .no, .no, .no, .no, .no, .no, .no, .no, .no, .no, .no, .no, .no, .no, .no, .no, .no, .no, .no, .no, .no, .no, .no, .no, .no, .no, .no, .no, .no, .no, .no, .no, .no, .no, .no, .no, .no, .no, .no, .no, .no, .no, .no, .no, .no, .no, .no, .no, .no, .no, .no, .no, .no, .no, .no, .no, .no, .no, .no, .no, .no, .no, .no, .no, .no, .no, .no, .no, .no, .no, .no, .no, .no, .no, .no, .no, .no, .no, .no, .no, .no, .no, .no, .no, .no, .no, .no, .no, .no, .no, .no, .no, .no, .no, .no, .no, .no, .no, .no, .no, .no, .no, .no, .no, .no, .no, .no, .no, .no, .no, .no, .no, .no, .no, .no, .no, .no, .no, .no, .no, .no, .no, .no, .no, .no, .no, .no, .no, .no, .no, .no, .no, .no, .no, .no, .no, .no, .no, .no, .no, .no, .no, .no, .no, .no, .no, .no, .no, .no, .no, .no, .no, .no, .no, .no, .no, .no, .no, .no, .no, .no, .no, .no, .no, .no, .no, .no, .no, .no, .no, .no, .no, .no, .no, .no]⟩) 0 (by omega) ?_ ?_
    · refine Wk.mk ?_ ?_
      all_goals (repeat' first | exact trivial | exact LeA.refl _ | exact LeA.any _ | exact LeO.refl _ | exact LeO.no _ | exact LeA.nil _ | exact LeA.nilOwn _ | exact LeO.nil _ _ _ | refine LeO.box ?_ | (refine LeA.i ?_; (first | rfl | (push_cast; rfl) | (rw [wrap_id (by omega)]; push_cast; omega) | (simp [wrap_id]; omega))) | refine ⟨?_, ?_⟩)
    intro k hk
    simp only [litI, litB] at hk ⊢
    by_cases h5 : k < tb.key
    · have d5 : decide ((k : Int) < (tb.key : Int)) = true := decide_eq_true (by omega)
      have hN : cntN (eqP r.column l x) (k + 1) = cntN (eqP r.column l x) k + if eqP r.column l x k = true then 1 else 0 := rfl
      have hcle := cntN_le (eqP r.column l x) k
      have hcl : r.column + k < l.length := by omega
      have hc := cls_at l hcl
      have hc2 := cls_at x (i := k) (by omega)
      have hE : eqP r.column l x k = vlEq (l.getD (r.column + k) nullC).v (x.getD k nullC).v := rfl
      have w1 : IntKind.i64.wrap ((r.column : Int) + (k : Int)) = ((r.column + k : Nat) : Int) := by rw [wrap_id (by omega)]; push_cast; rfl
      rw [hE] at hN
      clear hE
      generalize cntN (eqP r.column l x) k = y0 at *
      generalize l.getD (r.column + k) nullC = c at *
      generalize x.getD k nullC = e at *
      have hv : (c.v.k == e.v.k && (c.v.i == e.v.i && c.v.s.toList == e.v.s.toList)) = vlEq c.v e.v := rfl
      cases hq : vlEq c.v e.v
      all_goals
        simp only [hq, reduceIte, Bool.false_eq_true, Nat.add_zero] at hN
        repeat' first
          | refine awp_seq ?_
          | refine awp_block ?_
          | refine awp_skip ?_
          | (refine reg _ (by (simp only [List.map_cons, List.map_nil]; rfl)) rfl ?_; intro K hK)
          | (refine awp_cond _ (by rfl) ?_ ?_ <;> (intro hb; first | (cases hb; done) | (have ht : true = true := hb; clear ht hb) | (have ht : false = false := hb; clear ht hb) | (simp only [hb]) | skip))
          | (refine awp_exit ?_; simp only [thenA, blockA, scopeA, reduceIte, RetQ, Nat.reduceEqDiff])
          | (refine awp_ret ?_; simp only [thenA, blockA, scopeA, RetQ])
          | (refine ev_nil (hK _ ?_); clear hK K)
          | (apply ev_guardU; (case hj | hu | hσ => (simp only [go_sem, d5, hw, hx, hu, w1, hc, hc2, hv, hq]; try rfl)))
          | (refine ev_guardT _ _ (by (simp only [go_sem, d5, hw, hx, hu, w1, hc, hc2, hv, hq]; rfl)) (by (simp only [go_sem, d5, hw, hx, hu, w1, hc, hc2, hv, hq]; rfl)) ?_ ?_ <;> (intro hb; first | (cases hb; done) | (have ht : true = true := hb; clear ht hb) | (have ht : false = false := hb; clear ht hb) | (simp only [hb]) | skip))
          | (refine ev_guardF _ _ (by (simp only [go_sem, d5, hw, hx, hu, w1, hc, hc2, hv, hq]; rfl)) (by (simp only [go_sem, d5, hw, hx, hu, w1, hc, hc2, hv, hq]; rfl)) ?_ ?_ <;> (intro hb; first | (cases hb; done) | (have ht : true = true := hb; clear ht hb) | (have ht : false = false := hb; clear ht hb) | (simp only [hb]) | skip))
          | (apply regD; (case hd => (simp only [List.map_cons, List.map_nil]; rfl)); (case hok => rfl); (case' h => (intro K hK; (repeat' first
        | (apply evd_nil; refine (hK _ ?_); clear hK K)
        | (apply evd_guardU0; (case hj | hu | hσ => (simp only [go_sem, d5, hw, hx, hu, w1, hc, hc2, hv, hq]; try rfl)))
        | (apply evd_guardU; (case hj | hu | hσ => (simp only [go_sem, d5, hw, hx, hu, w1, hc, hc2, hv, hq]; try rfl)))
        | (apply evd_skipT0; (case hj | hb | hσ => (simp only [go_sem, d5, hw, hx, hu, w1, hc, hc2, hv, hq]; try rfl)))
        | (apply evd_skipF0; (case hj | hb | hσ => (simp only [go_sem, d5, hw, hx, hu, w1, hc, hc2, hv, hq]; try rfl)))
        | (apply evd_skipT; (case hj | hb | hσ => (simp only [go_sem, d5, hw, hx, hu, w1, hc, hc2, hv, hq]; try rfl)))
        | (apply evd_skipF; (case hj | hb | hσ => (simp only [go_sem, d5, hw, hx, hu, w1, hc, hc2, hv, hq]; try rfl)))
        | (apply evd_guardT; (case hj | hb => (simp only [go_sem, d5, hw, hx, hu, w1, hc, hc2, hv, hq]; try rfl)); (case' h2 => (intro hb; first | (cases hb; done) | (simp only [hb]) | skip)); (case' h1 => (intro hb; first | (cases hb; done) | (simp only [hb]) | skip)))
        | (apply evd_guardF; (case hj | hb => (simp only [go_sem, d5, hw, hx, hu, w1, hc, hc2, hv, hq]; try rfl)); (case' h2 => (intro hb; first | (cases hb; done) | (simp only [hb]) | skip)); (case' h1 => (intro hb; first | (cases hb; done) | (simp only [hb]) | skip)))
        | (apply evd_step0; (case hr | hi | hσ => (simp only [go_sem, d5, hw, hx, hu, w1, hc, hc2, hv, hq]; try rfl)); (case hc => (first | trivial | decide | (simp only [inB, sliceOk, appendOk, rowsOk]; omega) | (simp [inB, sliceOk, appendOk, rowsOk]; omega))))
        | (apply evd_step; (case hr | hi => (simp only [go_sem, d5, hw, hx, hu, w1, hc, hc2, hv, hq]; try rfl)); (case hc => (first | trivial | decide | (simp only [inB, sliceOk, appendOk, rowsOk]; omega) | (simp [inB, sliceOk, appendOk, rowsOk]; omega))); (case hw | hσ => (intro g u; simp only [go_sem, d5, hw, hx, hu, w1, hc, hc2, hv, hq]; try rfl)); (case' hk => (intro g u; (try clear u); (try clear g))))
        | fail))); (case hB => kernel_rfl))
          | (apply ev_step0; (case hr | hσ => (simp only [go_sem, d5, hw, hx, hu, w1, hc, hc2, hv, hq]; try rfl)); (case hc => (first | trivial | decide | (simp only [inB, sliceOk, appendOk, rowsOk]; omega) | (simp [inB, sliceOk, appendOk, rowsOk]; omega))))
          | (apply ev_step; (case hr => (simp only [go_sem, d5, hw, hx, hu, w1, hc, hc2, hv, hq]; try rfl)); (case hσ => (intro g u; simp only [go_sem, d5, hw, hx, hu, w1, hc, hc2, hv, hq]; try rfl)); (case hc => (first | trivial | decide | (simp only [inB, sliceOk, appendOk, rowsOk]; omega) | (simp [inB, sliceOk, appendOk, rowsOk]; omega))); intro g u; (try clear u); (try clear g))
          | fail
        refine Exists.intro (k + 1) ⟨by omega, by omega, ?_⟩
        simp only [hN]
        refine Wk.mk ?_ ?_
        all_goals (repeat' first | exact trivial | exact LeA.refl _ | exact LeA.any _ | exact LeO.refl _ | exact LeO.no _ | exact LeA.nil _ | exact LeA.nilOwn _ | exact LeO.nil _ _ _ | refine LeO.box ?_ | (refine LeA.i ?_; (first | rfl | (push_cast; rfl) | (rw [wrap_id (by omega)]; push_cast; omega) | (simp [wrap_id]; omega))) | refine ⟨?_, ?_⟩)
    have d5 : decide ((k : Int) < (tb.key : Int)) = false := decide_eq_false (by omega)
    have hke : k = tb.key := by omega
    subst hke
    have hele := cntN_le (eqP r.column l x) tb.key
    generalize cntN (eqP r.column l x) tb.key = ee at *
    cases a1
    all_goals
      simp only [Bool.true_or, Bool.false_or] at hAm
      repeat' first
        | refine awp_seq ?_
        | refine awp_block ?_
        | refine awp_skip ?_
        | (refine reg _ (by (simp only [List.map_cons, List.map_nil]; rfl)) rfl ?_; intro K hK)
        | (refine awp_cond _ (by rfl) ?_ ?_ <;> (intro hb; first | (cases hb; done) | (have ht : true = true := hb; clear ht hb) | (have ht : false = false := hb; clear ht hb) | (simp only [hb]) | skip))
        | (refine awp_exit ?_; simp only [thenA, blockA, scopeA, reduceIte, RetQ, Nat.reduceEqDiff])
        | (refine awp_ret ?_; simp only [thenA, blockA, scopeA, RetQ])
        | (refine ev_nil (hK _ ?_); clear hK K)
        | (apply ev_guardU; (case hj | hu | hσ => (simp only [go_sem, d5]; try rfl)))
        | (refine ev_guardT _ _ (by (simp only [go_sem, d5]; rfl)) (by (simp only [go_sem, d5]; rfl)) ?_ ?_ <;> (intro hb; first | (cases hb; done) | (have ht : true = true := hb; clear ht hb) | (have ht : false = false := hb; clear ht hb) | (simp only [hb]) | skip))
        | (refine ev_guardF _ _ (by (simp only [go_sem, d5]; rfl)) (by (simp only [go_sem, d5]; rfl)) ?_ ?_ <;> (intro hb; first | (cases hb; done) | (have ht : true = true := hb; clear ht hb) | (have ht : false = false := hb; clear ht hb) | (simp only [hb]) | skip))
        | (apply regD; (case hd => (simp only [List.map_cons, List.map_nil]; rfl)); (case hok => rfl); (case' h => (intro K hK; (repeat' first
        | (apply evd_nil; refine (hK _ ?_); clear hK K)
        | (apply evd_guardU0; (case hj | hu | hσ => (simp only [go_sem, d5]; try rfl)))
        | (apply evd_guardU; (case hj | hu | hσ => (simp only [go_sem, d5]; try rfl)))
        | (apply evd_skipT0; (case hj | hb | hσ => (simp only [go_sem, d5]; try rfl)))
        | (apply evd_skipF0; (case hj | hb | hσ => (simp only [go_sem, d5]; try rfl)))
        | (apply evd_skipT; (case hj | hb | hσ => (simp only [go_sem, d5]; try rfl)))
        | (apply evd_skipF; (case hj | hb | hσ => (simp only [go_sem, d5]; try rfl)))
        | (apply evd_guardT; (case hj | hb => (simp only [go_sem, d5]; try rfl)); (case' h2 => (intro hb; first | (cases hb; done) | (simp only [hb]) | skip)); (case' h1 => (intro hb; first | (cases hb; done) | (simp only [hb]) | skip)))
        | (apply evd_guardF; (case hj | hb => (simp only [go_sem, d5]; try rfl)); (case' h2 => (intro hb; first | (cases hb; done) | (simp only [hb]) | skip)); (case' h1 => (intro hb; first | (cases hb; done) | (simp only [hb]) | skip)))
        | (apply evd_step0; (case hr | hi | hσ => (simp only [go_sem, d5]; try rfl)); (case hc => (first | trivial | decide | (simp only [inB, sliceOk, appendOk, rowsOk]; omega) | (simp [inB, sliceOk, appendOk, rowsOk]; omega))))
        | (apply evd_step; (case hr | hi => (simp only [go_sem, d5]; try rfl)); (case hc => (first | trivial | decide | (simp only [inB, sliceOk, appendOk, rowsOk]; omega) | (simp [inB, sliceOk, appendOk, rowsOk]; omega))); (case hw | hσ => (intro g u; simp only [go_sem, d5]; try rfl)); (case' hk => (intro g u; (try clear u); (try clear g))))
        | fail))); (case hB => kernel_rfl))
        | (apply ev_step0; (case hr | hσ => (simp only [go_sem, d5]; try rfl)); (case hc => (first | trivial | decide | (simp only [inB, sliceOk, appendOk, rowsOk]; omega) | (simp [inB, sliceOk, appendOk, rowsOk]; omega))))
        | (apply ev_step; (case hr => (simp only [go_sem, d5]; try rfl)); (case hσ => (intro g u; simp only [go_sem, d5]; try rfl)); (case hc => (first | trivial | decide | (simp only [inB, sliceOk, appendOk, rowsOk]; omega) | (simp [inB, sliceOk, appendOk, rowsOk]; omega))); intro g u; (try clear u); (try clear g))
        | fail
      refine Exists.intro (m + 1) ⟨by omega, by omega, ?_⟩
      rw [hAm]
      refine Wk.mk ?_ ?_
      all_goals (repeat' first | exact trivial | exact LeA.refl _ | exact LeA.any _ | exact LeO.refl _ | exact LeO.no _ | exact LeA.nil _ | exact LeA.nilOwn _ | exact LeO.nil _ _ _ | refine LeO.box ?_ | (refine LeA.i ?_; (first | rfl | (push_cast; rfl) | (rw [wrap_id (by omega)]; push_cast; omega) | (simp [wrap_id]; omega))) | refine ⟨?_, ?_⟩)
  · have d1 : decide ((i : Int) < (s.refs.length : Int)) = false := decide_eq_false (by omega)
    have hie : i = s.refs.length := by omega
    subst hie
    clear hFS
    rw [← hG0]
    repeat' first
      | refine awp_seq ?_
      | refine awp_block ?_
      | refine awp_skip ?_
      | (refine reg _ (by (simp only [List.map_cons, List.map_nil]; rfl)) rfl ?_; intro K hK)
      | (refine awp_cond _ (by rfl) ?_ ?_ <;> (intro hb; first | (cases hb; done) | (have ht : true = true := hb; clear ht hb) | (have ht : false = false := hb; clear ht hb) | (simp only [hb]) | skip))
      | (refine awp_exit ?_; simp only [thenA, blockA, scopeA, reduceIte, RetQ, Nat.reduceEqDiff])
      | (refine awp_ret ?_; simp only [thenA, blockA, scopeA, RetQ])
      | (refine ev_nil (hK _ ?_); clear hK K)
      | (apply ev_guardU; (case hj | hu | hσ => (simp only [go_sem, d1]; try rfl)))
      | (refine ev_guardT _ _ (by (simp only [go_sem, d1]; rfl)) (by (simp only [go_sem, d1]; rfl)) ?_ ?_ <;> (intro hb; first | (cases hb; done) | (have ht : true = true := hb; clear ht hb) | (have ht : false = false := hb; clear ht hb) | (simp only [hb]) | skip))
      | (refine ev_guardF _ _ (by (simp only [go_sem, d1]; rfl)) (by (simp only [go_sem, d1]; rfl)) ?_ ?_ <;> (intro hb; first | (cases hb; done) | (have ht : true = true := hb; clear ht hb) | (have ht : false = false := hb; clear ht hb) | (simp only [hb]) | skip))
      | (apply regD; (case hd => (simp only [List.map_cons, List.map_nil]; rfl)); (case hok => rfl); (case' h => (intro K hK; (repeat' first
        | (apply evd_nil; refine (hK _ ?_); clear hK K)
        | (apply evd_guardU0; (case hj | hu | hσ => (simp only [go_sem, d1]; try rfl)))
        | (apply evd_guardU; (case hj | hu | hσ => (simp only [go_sem, d1]; try rfl)))
        | (apply evd_skipT0; (case hj | hb | hσ => (simp only [go_sem, d1]; try rfl)))
        | (apply evd_skipF0; (case hj | hb | hσ => (simp only [go_sem, d1]; try rfl)))
        | (apply evd_skipT; (case hj | hb | hσ => (simp only [go_sem, d1]; try rfl)))
        | (apply evd_skipF; (case hj | hb | hσ => (simp only [go_sem, d1]; try rfl)))
        | (apply evd_guardT; (case hj | hb => (simp only [go_sem, d1]; try rfl)); (case' h2 => (intro hb; first | (cases hb; done) | (simp only [hb]) | skip)); (case' h1 => (intro hb; first | (cases hb; done) | (simp only [hb]) | skip)))
        | (apply evd_guardF; (case hj | hb => (simp only [go_sem, d1]; try rfl)); (case' h2 => (intro hb; first | (cases hb; done) | (simp only [hb]) | skip)); (case' h1 => (intro hb; first | (cases hb; done) | (simp only [hb]) | skip)))
        | (apply evd_step0; (case hr | hi | hσ => (simp only [go_sem, d1]; try rfl)); (case hc => (first | trivial | decide | (simp only [inB, sliceOk, appendOk, rowsOk]; omega) | (simp [inB, sliceOk, appendOk, rowsOk]; omega))))
        | (apply evd_step; (case hr | hi => (simp only [go_sem, d1]; try rfl)); (case hc => (first | trivial | decide | (simp only [inB, sliceOk, appendOk, rowsOk]; omega) | (simp [inB, sliceOk, appendOk, rowsOk]; omega))); (case hw | hσ => (intro g u; simp only [go_sem, d1]; try rfl)); (case' hk => (intro g u; (try clear u); (try clear g))))
        | fail))); (case hB => kernel_rfl))
      | (apply ev_step0; (case hr | hσ => (simp only [go_sem, d1]; try rfl)); (case hc => (first | trivial | decide | (simp only [inB, sliceOk, appendOk, rowsOk]; omega) | (simp [inB, sliceOk, appendOk, rowsOk]; omega))))
      | (apply ev_step; (case hr => (simp only [go_sem, d1]; try rfl)); (case hσ => (intro g u; simp only [go_sem, d1]; try rfl)); (case hc => (first | trivial | decide | (simp only [inB, sliceOk, appendOk, rowsOk]; omega) | (simp [inB, sliceOk, appendOk, rowsOk]; omega))); intro g u; (try clear u); (try clear g))
      | fail
    refine awp_loopI (fun t : Nat => t ≤ s.totals.length) (fun t => s.totals.length - t) (fun t => ⟨[.any, .any, .any, .any, .any, .any, .any, litB true, .ptr 8 g8 0, .ptr 9 g9 0, litB (G t), .any, .any, .any, .any, .any, .any, .any, .any, .any, .any, .any, litI .i64 t, .any, .any, .any, .any, .any, .any, .any, .any, .any, .any, .any, .any, .any, .any, .any, .any, .any, .any, .any, .any, .any, .any, .any, .any, .any, .any, .any, .any, .any, .any, .any, .any, .any, .any, .any, .any, .any, .any, .any, .any, .any, .any, .any, .any, .any, .any, .any, .any, .any, .any, .any, .any, .any, .any, .any, .any, .any, .any, .any, .any, .any, .any, .any, .any, .any, .any, .any, .any, .any, .any, .any, .any, .any, .any, .any, .any, .any, .any, .any, .any, .any, .any, .any, .any, .any, .any, .any, .any, .any, .any, .any, .any, .any, .any, .any, .any, .any, .any, .any, .any, .any, .any, .any, .any, .any, .any, .any, .any, .any, .any, .any, .any, .any, .any, .any, .any, .any, .any, .any, .any, .any, .any, .any, .any, .any, .any, .any, .any, .any, .any, .any, .any, .any, .any, .any, .any, .any, .any, .any, .any, .any, .any, .any, .any, .any, .any, .any, .any, .any, .any, .any, .any, .any, .any, .any, .any, .any, .any, .any, .any, .any, .any, .any, .any, .any, .any, .any, .any, .any, .any, .any, .any, .any, .any, .any, .any, .any, .any, .any, .any, .any, .any, .any, .any, .any, .any, .any, .any, .any, .any, .any], [.no, .no, .no, .no, .no, .no, .no, .no, .box g8 (schA s), .box g9 (stA st), .no, .no, .no, .no, .no, .no, .no, .no, .no, .no, .no, .no, .no, .no, .no, .no, .no, .no, .no, .no, .no, .no, .no, .no, .no, .no, .no, .no, .no, .no, .no, .no, .no, .no, .no, .no, .no, .no, .no, .no, .no, .no, .no, .no, .no, .no, .no, .no, .no, .no, .no, .no, .no, .no, .no, .no, .no, .no, .no, .no, .no, .no, .no, .no, .no, .no, .no, .no, .no, .no, .no, .no, .no, .no, .no, .no, .no, .no, .no, .no, .no, .no, .no, .no, .no, .no, .no, .no, .no, .no, .no, .no, .no, .no, .no, .no, .no, .no, .no, .no, .no, .no, .no, .no, .no, .no, .no, .no, .no, .no, .no, .no, .no, .no, .no, .no, .no, .no, .no, .no, .no, .no, .no, .no, .no, .no, .no, .no, .no, .no, .no, .no, .no, .no, .no, .no, .no, .no, .no, .no, .no, .no, .no, .no, .no, .no, .no, .no, .no, .no, .no, .no, .no, .no, .no, .no, .no, .no, .no, .no, .no, .no, .no, .no, .no, .no, .no, .no, .no, .no, .no, .no, .no, .no, .no, .no, .no, .no, .no, .no, .no, .no, .no, .no, .no, .no, .no, .no, .no, .no, .no, .no, .no, .no, .no, .no, .no, .no, .no, .no, .no, .no, .no, .no]⟩) 0 (by omega) ?_ ?_
    · refine Wk.mk ?_ ?_
      all_goals (repeat' first | exact trivial | exact LeA.refl _ | exact LeA.any _ | exact LeO.refl _ | exact LeO.no _ | exact LeA.nil _ | exact LeA.nilOwn _ | exact LeO.nil _ _ _ | refine LeO.box ?_ | (refine LeA.i ?_; (first | rfl | (push_cast; rfl) | (rw [wrap_id (by omega)]; push_cast; omega) | (simp [wrap_id]; omega))) | refine ⟨?_, ?_⟩)
    intro t ht
    simp only [litI, litB] at ht ⊢
    by_cases h2 : t < s.totals.length
    · have d2 : decide ((t : Int) < (s.totals.length : Int)) = true := decide_eq_true (by omega)
      have hx := tts_at s.totals h2
      have hGt := hGS t h2
      have hso := sum_over (st := st) h2
      have h19 := f19_spec s st (t : Int) h hs.toStOk
      rw [← hso] at hGt
      clear hso
      generalize (sumIn s st (t : Int)).1 = q1 at *
      generalize (sumIn s st (t : Int)).2 = q2 at *
      generalize s.totals.getD t ttN = tt at *
      generalize G t = a1 at *
      obtain ⟨b1, e1⟩ : ∃ b, (q2 == 0) = b := ⟨_, rfl⟩
      obtain ⟨b2, e2⟩ : ∃ b, decide (q1 ≥ tt.lo) = b := ⟨_, rfl⟩
      rw [e1, e2] at hGt
      cases a1
      rotate_left
      cases b1
      rotate_left
      cases b2
      all_goals
        simp only [Bool.false_and, Bool.true_and] at hGt
        repeat' first
          | refine awp_seq ?_
          | refine awp_block ?_
          | refine awp_skip ?_
          | (refine reg _ (by (simp only [List.map_cons, List.map_nil]; rfl)) rfl ?_; intro K hK)
          | (refine awp_cond _ (by rfl) ?_ ?_ <;> (intro hb; first | (cases hb; done) | (have ht : true = true := hb; clear ht hb) | (have ht : false = false := hb; clear ht hb) | (simp only [hb]) | skip))
          | (refine awp_exit ?_; simp only [thenA, blockA, scopeA, reduceIte, RetQ, Nat.reduceEqDiff])
          | (refine awp_ret ?_; simp only [thenA, blockA, scopeA, RetQ])
          | (refine ev_nil (hK _ ?_); clear hK K)
          | (apply ev_guardU; (case hj | hu | hσ => (simp only [go_sem, d2, hx, e1, e2]; try rfl)))
          | (refine ev_guardT _ _ (by (simp only [go_sem, d2, hx, e1, e2]; rfl)) (by (simp only [go_sem, d2, hx, e1, e2]; rfl)) ?_ ?_ <;> (intro hb; first | (cases hb; done) | (have ht : true = true := hb; clear ht hb) | (have ht : false = false := hb; clear ht hb) | (simp only [hb]) | skip))
          | (refine ev_guardF _ _ (by (simp only [go_sem, d2, hx, e1, e2]; rfl)) (by (simp only [go_sem, d2, hx, e1, e2]; rfl)) ?_ ?_ <;> (intro hb; first | (cases hb; done) | (have ht : true = true := hb; clear ht hb) | (have ht : false = false := hb; clear ht hb) | (simp only [hb]) | skip))
          | (apply ev_call0; (case hys => (simp only [go_sem, d2, hx, e1, e2]; try rfl)); (case hs => first | exact h19 ..); (case hok | hσ => (simp only [go_sem, d2, hx, e1, e2]; try rfl)))
          | (apply regD; (case hd => (simp only [List.map_cons, List.map_nil]; rfl)); (case hok => rfl); (case' h => (intro K hK; (repeat' first
        | (apply evd_nil; refine (hK _ ?_); clear hK K)
        | (apply evd_guardU0; (case hj | hu | hσ => (simp only [go_sem, d2, hx, e1, e2]; try rfl)))
        | (apply evd_guardU; (case hj | hu | hσ => (simp only [go_sem, d2, hx, e1, e2]; try rfl)))
        | (apply evd_skipT0; (case hj | hb | hσ => (simp only [go_sem, d2, hx, e1, e2]; try rfl)))
        | (apply evd_skipF0; (case hj | hb | hσ => (simp only [go_sem, d2, hx, e1, e2]; try rfl)))
        | (apply evd_skipT; (case hj | hb | hσ => (simp only [go_sem, d2, hx, e1, e2]; try rfl)))
        | (apply evd_skipF; (case hj | hb | hσ => (simp only [go_sem, d2, hx, e1, e2]; try rfl)))
        | (apply evd_guardT; (case hj | hb => (simp only [go_sem, d2, hx, e1, e2]; try rfl)); (case' h2 => (intro hb; first | (cases hb; done) | (simp only [hb]) | skip)); (case' h1 => (intro hb; first | (cases hb; done) | (simp only [hb]) | skip)))
        | (apply evd_guardF; (case hj | hb => (simp only [go_sem, d2, hx, e1, e2]; try rfl)); (case' h2 => (intro hb; first | (cases hb; done) | (simp only [hb]) | skip)); (case' h1 => (intro hb; first | (cases hb; done) | (simp only [hb]) | skip)))
        | (apply evd_call0; (case hi | hys => (simp only [go_sem, d2, hx, e1, e2]; try rfl)); (case hs => first | exact h19 ..); (case hok | hw | hσ => (simp only [go_sem, d2, hx, e1, e2]; try rfl)))
        | (apply evd_step0; (case hr | hi | hσ => (simp only [go_sem, d2, hx, e1, e2]; try rfl)); (case hc => (first | trivial | decide | (simp only [inB, sliceOk, appendOk, rowsOk]; omega) | (simp [inB, sliceOk, appendOk, rowsOk]; omega))))
        | (apply evd_step; (case hr | hi => (simp only [go_sem, d2, hx, e1, e2]; try rfl)); (case hc => (first | trivial | decide | (simp only [inB, sliceOk, appendOk, rowsOk]; omega) | (simp [inB, sliceOk, appendOk, rowsOk]; omega))); (case hw | hσ => (intro g u; simp only [go_sem, d2, hx, e1, e2]; try rfl)); (case' hk => (intro g u; (try clear u); (try clear g))))
        | fail))); (case hB => kernel_rfl))
          | (apply ev_step0; (case hr | hσ => (simp only [go_sem, d2, hx, e1, e2]; try rfl)); (case hc => (first | trivial | decide | (simp only [inB, sliceOk, appendOk, rowsOk]; omega) | (simp [inB, sliceOk, appendOk, rowsOk]; omega))))
          | (apply ev_step; (case hr => (simp only [go_sem, d2, hx, e1, e2]; try rfl)); (case hσ => (intro g u; simp only [go_sem, d2, hx, e1, e2]; try rfl)); (case hc => (first | trivial | decide | (simp only [inB, sliceOk, appendOk, rowsOk]; omega) | (simp [inB, sliceOk, appendOk, rowsOk]; omega))); intro g u; (try clear u); (try clear g))
          | fail
        refine Exists.intro (t + 1) ⟨by omega, by omega, ?_⟩
        rw [hGt]
        refine Wk.mk ?_ ?_
        all_goals (repeat' first | exact trivial | exact LeA.refl _ | exact LeA.any _ | exact LeO.refl _ | exact LeO.no _ | exact LeA.nil _ | exact LeA.nilOwn _ | exact LeO.nil _ _ _ | refine LeO.box ?_ | (refine LeA.i ?_; (first | rfl | (push_cast; rfl) | (rw [wrap_id (by omega)]; push_cast; omega) | (simp [wrap_id]; omega))) | refine ⟨?_, ?_⟩)
    · have d2 : decide ((t : Int) < (s.totals.length : Int)) = false := decide_eq_false (by omega)
      have hte : t = s.totals.length := by omega
      subst hte
      rw [hGe]
      cases hd
      all_goals
        repeat' first
          | refine awp_seq ?_
          | refine awp_block ?_
          | refine awp_skip ?_
          | (refine reg _ (by (simp only [List.map_cons, List.map_nil]; rfl)) rfl ?_; intro K hK)
          | (refine awp_cond _ (by rfl) ?_ ?_ <;> (intro hb; first | (cases hb; done) | (have ht : true = true := hb; clear ht hb) | (have ht : false = false := hb; clear ht hb) | (simp only [hb]) | skip))
          | (refine awp_exit ?_; simp only [thenA, blockA, scopeA, reduceIte, RetQ, Nat.reduceEqDiff])
          | (refine awp_ret ?_; simp only [thenA, blockA, scopeA, RetQ])
          | (refine ev_nil (hK _ ?_); clear hK K)
          | (apply ev_guardU; (case hj | hu | hσ => (simp only [go_sem, d2, hce]; try rfl)))
          | (refine ev_guardT _ _ (by (simp only [go_sem, d2, hce]; rfl)) (by (simp only [go_sem, d2, hce]; rfl)) ?_ ?_ <;> (intro hb; first | (cases hb; done) | (have ht : true = true := hb; clear ht hb) | (have ht : false = false := hb; clear ht hb) | (simp only [hb]) | skip))
          | (refine ev_guardF _ _ (by (simp only [go_sem, d2, hce]; rfl)) (by (simp only [go_sem, d2, hce]; rfl)) ?_ ?_ <;> (intro hb; first | (cases hb; done) | (have ht : true = true := hb; clear ht hb) | (have ht : false = false := hb; clear ht hb) | (simp only [hb]) | skip))
          | (apply ev_call0; (case hys => (simp only [go_sem, d2, hce]; try rfl)); (case hs => first | exact h17 .. | exact h15 ..); (case hok | hσ => (simp only [go_sem, d2, hce]; try rfl)))
          | (apply regD; (case hd => (simp only [List.map_cons, List.map_nil]; rfl)); (case hok => rfl); (case' h => (intro K hK; (repeat' first
        | (apply evd_nil; refine (hK _ ?_); clear hK K)
        | (apply evd_guardU0; (case hj | hu | hσ => (simp only [go_sem, d2, hce]; try rfl)))
        | (apply evd_guardU; (case hj | hu | hσ => (simp only [go_sem, d2, hce]; try rfl)))
        | (apply evd_skipT0; (case hj | hb | hσ => (simp only [go_sem, d2, hce]; try rfl)))
        | (apply evd_skipF0; (case hj | hb | hσ => (simp only [go_sem, d2, hce]; try rfl)))
        | (apply evd_skipT; (case hj | hb | hσ => (simp only [go_sem, d2, hce]; try rfl)))
        | (apply evd_skipF; (case hj | hb | hσ => (simp only [go_sem, d2, hce]; try rfl)))
        | (apply evd_guardT; (case hj | hb => (simp only [go_sem, d2, hce]; try rfl)); (case' h2 => (intro hb; first | (cases hb; done) | (simp only [hb]) | skip)); (case' h1 => (intro hb; first | (cases hb; done) | (simp only [hb]) | skip)))
        | (apply evd_guardF; (case hj | hb => (simp only [go_sem, d2, hce]; try rfl)); (case' h2 => (intro hb; first | (cases hb; done) | (simp only [hb]) | skip)); (case' h1 => (intro hb; first | (cases hb; done) | (simp only [hb]) | skip)))
        | (apply evd_call0; (case hi | hys => (simp only [go_sem, d2, hce]; try rfl)); (case hs => first | exact h17 .. | exact h15 ..); (case hok | hw | hσ => (simp only [go_sem, d2, hce]; try rfl)))
        | (apply evd_step0; (case hr | hi | hσ => (simp only [go_sem, d2, hce]; try rfl)); (case hc => (first | trivial | decide | (simp only [inB, sliceOk, appendOk, rowsOk]; omega) | (simp [inB, sliceOk, appendOk, rowsOk]; omega))))
        | (apply evd_step; (case hr | hi => (simp only [go_sem, d2, hce]; try rfl)); (case hc => (first | trivial | decide | (simp only [inB, sliceOk, appendOk, rowsOk]; omega) | (simp [inB, sliceOk, appendOk, rowsOk]; omega))); (case hw | hσ => (intro g u; simp only [go_sem, d2, hce]; try rfl)); (case' hk => (intro g u; (try clear u); (try clear g))))
        | fail))); (case hB => kernel_rfl))
          | (apply ev_step0; (case hr | hσ => (simp only [go_sem, d2, hce]; try rfl)); (case hc => (first | trivial | decide | (simp only [inB, sliceOk, appendOk, rowsOk]; omega) | (simp [inB, sliceOk, appendOk, rowsOk]; omega))))
          | (apply ev_step; (case hr => (simp only [go_sem, d2, hce]; try rfl)); (case hσ => (intro g u; simp only [go_sem, d2, hce]; try rfl)); (case hc => (first | trivial | decide | (simp only [inB, sliceOk, appendOk, rowsOk]; omega) | (simp [inB, sliceOk, appendOk, rowsOk]; omega))); intro g u; (try clear u); (try clear g))
          | fail
        all_goals (refine resR_one T_ok rfl _ (by (simp only [go_sem, resA]; rfl)) (by first | trivial | (simp only [go_sem, resA])) (by first | trivial | (simp only [go_sem])) ?_; simp only [go_sem])
        exact LeA.refl _
end
section
set_option linter.unusedVariables false
set_option linter.unusedSimpArgs false
/-- The law, for whatever reads as its arguments. -/
theorem law4_spec : ∀ dss, tyRs T 8 [24, 22, 26] dss → Spec Try.prog 4 (avTys T [24, 22, 26] dss) (.d (.lit (.bool true))) := by
  intro dss h
  obtain ⟨d0, r0, rfl, h0, h⟩ := tyRs_one h
  obtain ⟨d1, r1, rfl, h1, h⟩ := tyRs_one h
  obtain ⟨d2, r2, rfl, h2, h⟩ := tyRs_one h
  obtain rfl := tyRs_nil h
  obtain ⟨b, rfl, hb⟩ := ty24 h0
  obtain ⟨b0, rfl, hb0⟩ := ty22 h1
  obtain ⟨n, rfl⟩ := ty26 h2
  have := f4_spec b b0 n hb hb0
  simp only [avTys, avTy, T24, ti24, T22, ti22, T26, ti26, List.map_cons, List.map_nil, if_true]
  exact this
end
end Go.Proofs.Ytlkfbhhopkoopaa.A
