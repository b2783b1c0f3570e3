/- Slices of slices and strings; elements of strings; append, make; values and slices that are built. -/
import Derived.Test.YtopigomfhggkoaaDoorJA8
import Derived.Maps.AppendAt
set_option linter.unusedVariables false
set_option linter.unusedSimpArgs false
namespace Go.Proofs.YtopigomfhggkoaaDoor.A
open Go.RowKit
section
variable {E : Env} {o : Oper} {σ : St} {T : Tab}
def bnd (x : Option AV) (d : Int) : Option Int := match x with
  | none => some d
  | some (.d (.lit (.int _ n))) => some n
  | some _ => none
def sliceOk (l h : Int) (L : Nat) : Prop := 0 ≤ l ∧ l ≤ h ∧ h ≤ L
def cutRows (rows : List (List Dat)) (l h : Int) : List (List Dat) := (rows.take h.toNat).drop l.toNat
def sliceR (T : Tab) (n : Nat) (t : Nat) (x : AV) (ob : AObj) (lo hi : Option AV) : Res := match x, ob with
  | .d (.lit (.string s)), _ => match bnd lo 0, bnd hi s.size with
    | some l, some h => R0 ((T t).known = true ∧ (T t).kind = 4 ∧ sliceOk l h s.size) (litS (s.extract l.toNat h.toNat))
    | _, _ => Rno
  | .d (.lit (.slice none 0 0)), _ => match bnd lo 0, bnd hi 0 with
    | some l, some h => R0 ((T t).known = true ∧ (T t).kind = 1 ∧ (T (T t).elem).known = true ∧ l = 0 ∧ h = 0) (.d (.lit (.slice none 0 0)))
    | _, _ => Rno
  | .d (.sl sz rows), _ => match bnd lo 0, bnd hi rows.length with
    | some l, some h => R0 ((T t).known = true ∧ (T t).kind = 1 ∧ (T (T t).elem).known = true ∧ sz = (T (T t).elem).size ∧ sliceOk l h rows.length) (.d (.sl sz (cutRows rows l h)))
    | _, _ => Rno
  | .own d u, .row v _ sz rows => match bnd lo 0, bnd hi rows.length with
    | some l, some h => ⟨(T t).known = true ∧ (T t).kind = 1 ∧ (T (T t).elem).known = true ∧ sz = (T (T t).elem).size ∧ u = v ∧ d < n ∧ sliceOk l h rows.length, fun _ _ => .d (.sl sz (cutRows rows l h)), fun _ _ => [(d, .fz v sz rows)]⟩
    | _, _ => Rno
  | .own d u, .fz v sz rows => match bnd lo 0, bnd hi rows.length with
    | some l, some h => R0 ((T t).known = true ∧ (T t).kind = 1 ∧ (T (T t).elem).known = true ∧ sz = (T (T t).elem).size ∧ u = v ∧ sliceOk l h rows.length) (.d (.sl sz (cutRows rows l h)))
    | _, _ => Rno
  | _, _ => Rno
theorem bnd_eval {x : Option Operand} (hx : ∀ y, x = some y → opOk y = true) {dflt l : Int} (h : bnd (x.map σ.eval) dflt = some l) {a : Act} {w : World} (hs : Sat E σ a w) : (x = none ∧ l = dflt) ∨ ∃ k, x.map a.eval = some (.int k l) := by
  cases x with
  | none => simp [bnd] at h; exact .inl ⟨rfl, h.symm⟩
  | some y =>
    right
    rw [Option.map_some] at h
    cases he : σ.eval y with
    | d z =>
      rw [he] at h
      cases z with
      | lit u =>
        cases u with
        | int k n =>
          simp only [bnd, Option.some.injEq] at h
          subst h
          have := hs.eval y (hx y rfl)
          rw [he] at this
          exact ⟨k, by rw [Option.map_some, has_lit this]⟩
        | _ => simp [bnd] at h
      | _ => simp [bnd] at h
    | _ => rw [he] at h; simp [bnd] at h
theorem run_sliceBounds' {P : Program} {b : Bool} {len cap : Nat} {lo hi : Option Value} {l h : Int} (w : World) (hl : (lo = none ∧ l = 0) ∨ ∃ k, lo = some (.int k l)) (hh : (hi = none ∧ h = len) ∨ ∃ k, hi = some (.int k h)) (hb : 0 ≤ l ∧ l ≤ h ∧ h ≤ len) (hc : len ≤ cap) :
    (Instr.sliceBounds b len cap lo hi none).run P w = .ok (l.toNat, h.toNat, cap) w := by
  have eh : (h.toNat : Int) = h := Int.toNat_of_nonneg (by omega)
  rcases hl with ⟨rfl, rfl⟩ | ⟨k, rfl⟩
  · rcases hh with ⟨rfl, rfl⟩ | ⟨k', rfl⟩
    · simp [Instr.sliceBounds]
    · simp [Instr.sliceBounds, run_sliceBound, show 0 ≤ h from by omega, show h ≤ (cap : Int) from by omega]
  · rcases hh with ⟨rfl, rfl⟩ | ⟨k', rfl⟩
    · have : l ≤ (len : Int) := by omega
      simp [Instr.sliceBounds, run_sliceBound, hb.1, this]
    · simp [Instr.sliceBounds, run_sliceBound, show 0 ≤ h from by omega, show h ≤ (cap : Int) from by omega, hb.1, eh, hb.2.1]
theorem run_slice_op (hT : TabOk E.P T) {t : Nat} {x : Operand} {lo hi : Option Operand} (ho : o.op = .slice t x lo hi none) (h1 : (T t).known = true) (h2 : (T t).kind = 1) (h3 : (T (T t).elem).known = true) {a : Act} {w : World} {A : Option Addr} {n c : Nat} (hx : a.eval x = .slice A n c)
    {l h : Int} (hl : (lo = none ∧ l = 0) ∨ ∃ k, lo.map a.eval = some (.int k l)) (hh : (hi = none ∧ h = n) ∨ ∃ k, hi.map a.eval = some (.int k h)) (hb : 0 ≤ l ∧ l ≤ h ∧ h ≤ n) (hc : n ≤ c) :
    (execOp a.eval o).run E.P w = .ok (.value (sliced A l.toNat h.toNat c (T (T t).elem).size)) w := by
  have h4 := run_underlying (w := w) (ti_slice hT h1 h2)
  have hb' := run_sliceBounds' (P := E.P) (b := true) (len := n) (cap := c) (lo := lo.map a.eval) (hi := hi.map a.eval) (l := l) (h := h) w (hl.imp (fun ⟨e1, e2⟩ => ⟨by rw [e1]; rfl, e2⟩) id) (hh.imp (fun ⟨e1, e2⟩ => ⟨by rw [e1]; rfl, e2⟩) id) hb hc
  simp [execOp, ho, hx, Instr.sliceAt, Instr.slice, h4, hb', run_sizeOf' hT h3, sliced]
theorem rep_sliced {m : Mem} {sz : Nat} {rows : List (List Dat)} {A : Option Addr} {c : Nat} (hr : Rep m (.sl sz rows) (.slice A rows.length c)) {l h : Int} (hb : sliceOk l h rows.length) : Rep m (.sl sz (cutRows rows l h)) (sliced A l.toNat h.toNat c sz) ∧ rows.length ≤ c := by
  simp only [Rep] at hr ⊢
  obtain ⟨A', c', e, hc, hm, hr⟩ := hr
  injection e with e1 e2 e3
  subst e1; subst e3
  obtain ⟨b1, b2, b3⟩ := hb
  have hlen : (cutRows rows l h).length = h.toNat - l.toNat := by simp only [cutRows, List.length_drop, List.length_take]; omega
  refine ⟨⟨_, _, by rw [sliced, hlen], by rw [hlen]; omega, by omega, ?_⟩, hc⟩
  by_cases hz : h.toNat = l.toNat
  · left
    exact List.eq_nil_of_length_eq_zero (by rw [hlen]; omega)
  · rcases hr with hr | ⟨b, o', rfl, hr⟩
    · left; subst hr; simp [cutRows]
    · right
      rw [if_neg (by omega)]
      refine ⟨b, o' + l.toNat * sz, by simp [Addr.add_lit], ?_⟩
      exact (hr.take h.toNat).drop l.toNat
theorem sound_slice (hT : TabOk E.P T) {t : TypeId} {x : Operand} {lo hi : Option Operand} (ho : o.op = .slice t x lo hi none) (hx : opOk x = true) (hlo : ∀ y, lo = some y → opOk y = true) (hhi : ∀ y, hi = some y → opOk y = true)
    (ob : AObj) (hO : ∀ d, names (σ.eval x) d → ob = objD σ.o d) : Sound E o σ (sliceR T σ.o.length t (σ.eval x) ob (lo.map σ.eval) (hi.map σ.eval)) := by
  unfold sliceR
  split
  · rename_i s e
    split
    · rename_i l h el eh
      refine Sound.pure ?_
      rintro ⟨h1, h2, b1, b2, b3⟩ a w hs
      have hv := has_lit (by have := hs.eval x hx; rwa [e] at this)
      have h4 := run_underlying (w := w) (ti_string hT h1 h2)
      have hb' := run_sliceBounds' (P := E.P) (b := false) (len := s.size) (cap := s.size) (lo := lo.map a.eval) (hi := hi.map a.eval) (l := l) (h := h) w ((bnd_eval hlo el hs).imp (fun ⟨e1, e2⟩ => ⟨by rw [e1]; rfl, e2⟩) id) ((bnd_eval hhi eh hs).imp (fun ⟨e1, e2⟩ => ⟨by rw [e1]; rfl, e2⟩) id) ⟨b1, b2, b3⟩ (Nat.le_refl _)
      exact ⟨_, by simp [execOp, ho, hv, Instr.sliceAt, Instr.slice, h4, hb'], has_lit_mk _ rfl⟩
    · exact Sound.no
  · rename_i e
    split
    · rename_i l h el eh
      refine Sound.pure ?_
      rintro ⟨h1, h2, h3, rfl, rfl⟩ a w hs
      have hv := has_lit (by have := hs.eval x hx; rwa [e] at this)
      refine ⟨_, run_slice_op hT ho h1 h2 h3 hv (bnd_eval hlo el hs) (bnd_eval hhi eh hs) ⟨by omega, by omega, by omega⟩ (Nat.le_refl _), ?_⟩
      simp [sliced]
      exact has_lit_mk _ rfl
    · exact Sound.no
  · rename_i sz rows e
    split
    · rename_i l h el eh
      refine Sound.pure ?_
      rintro ⟨h1, h2, h3, rfl, hb⟩ a w hs
      have hp := hs.eval x hx
      rw [e] at hp
      simp only [Has] at hp
      have hp' := hp
      simp only [Rep] at hp
      obtain ⟨A, c, hp, _⟩ := hp
      rw [hp] at hp'
      obtain ⟨k1, k2⟩ := rep_sliced hp' hb
      exact ⟨_, run_slice_op hT ho h1 h2 h3 hp (bnd_eval hlo el hs) (bnd_eval hhi eh hs) hb k2, by simp only [Has]; exact k1⟩
    · exact Sound.no
  · rename_i d u v e' sz rows e
    split
    · rename_i l h el eh
      refine Sound.of ?_
      rintro ⟨h1, h2, h3, rfl, rfl, hd, hb⟩ a w hs
      have hp := hs.eval x hx
      have hob := hO d (by rw [e]; rfl)
      rw [e] at hp
      simp only [Has] at hp
      have hf := hs.frz d
      rw [← hob] at hf
      simp only [A.frz] at hf
      have h0 := hf.o d _ (by rw [List.getElem?_set, if_pos rfl, if_pos hd])
      simp only [ObjAt] at h0
      have h0' := h0
      simp only [Rep] at h0
      obtain ⟨A, c, rfl, _⟩ := h0
      obtain ⟨k1, k2⟩ := rep_sliced h0' hb
      refine ⟨0, .nilFunc, _, w, run_slice_op hT ho h1 h2 h3 hp.1 (bnd_eval hlo el hs) (bnd_eval hhi eh hs) hb k2, hf, ?_⟩
      simp only [Has]
      exact k1
    · exact Sound.no
  · rename_i d u v sz rows e
    split
    · rename_i l h el eh
      refine Sound.pure ?_
      rintro ⟨h1, h2, h3, rfl, rfl, hb⟩ a w hs
      have hp := hs.eval x hx
      have hob := hO d (by rw [e]; rfl)
      rw [e] at hp
      simp only [Has] at hp
      have h0 := objAt_objD hs.o d
      rw [← hob] at h0
      simp only [ObjAt] at h0
      have h0' := h0
      simp only [Rep] at h0
      obtain ⟨A, c, hu, _⟩ := h0
      rw [hu] at h0' hp
      obtain ⟨k1, k2⟩ := rep_sliced h0' hb
      exact ⟨_, run_slice_op hT ho h1 h2 h3 hp.1 (bnd_eval hlo el hs) (bnd_eval hhi eh hs) hb k2, by simp only [Has]; exact k1⟩
    · exact Sound.no
  · exact Sound.no
def byteAt (s : ByteArray) (n : Int) : Int := ((s.data.toList.getD n.toNat 0).toNat : Int)
def indexR (T : Tab) (t : Nat) (x i : AV) : Res := match x, i with
  | .d (.lit (.string s)), .d (.lit (.int _ n)) => R0 ((T t).known = true ∧ (T t).kind = 4 ∧ inB n s.size) (litI .u8 (byteAt s n))
  | .agg cs, .d (.lit (.int _ n)) => R0 ((T t).known = true ∧ (T t).kind = 3 ∧ (T (T t).elem).known = true ∧ inB n (T t).alen ∧ n.toNat * (T (T t).elem).size + (T (T t).elem).size ≤ cs.length ∧ ((T (T t).elem).agg = true ∨ (T (T t).elem).size = 1)) (takeA T (T t).elem cs (n.toNat * (T (T t).elem).size))
  | _, _ => Rno
theorem sound_index (hT : TabOk E.P T) {t : TypeId} {x i : Operand} (ho : o.op = .index t x i) (hx : opOk x = true) (hi : opOk i = true) : Sound E o σ (indexR T t (σ.eval x) (σ.eval i)) := by
  unfold indexR
  split
  · rename_i s k n e1 e2
    refine Sound.pure ?_
    rintro ⟨h1, h2, b1, b2⟩ a w hs
    have hv := has_lit (by have := hs.eval x hx; rwa [e1] at this)
    have hn := has_lit (by have := hs.eval i hi; rwa [e2] at this)
    have h4 := run_underlying (w := w) (ti_string hT h1 h2)
    refine ⟨_, ?_, has_lit_mk _ rfl⟩
    have hlt : n.toNat < s.size := by omega
    have hg : (if 0 ≤ n then s[n.toNat]? else none) = some (s[n.toNat]'hlt) := by
      rw [if_pos b1]
      exact getElem?_pos s n.toNat hlt
    have hb : byteAt s n = ((s[n.toNat]'hlt).toNat : Int) := by
      unfold byteAt
      have hl : n.toNat < s.data.toList.length := by simpa using hlt
      rw [List.getD_eq_getElem?_getD, List.getElem?_eq_getElem hl]
      simp [ByteArray.getElem_eq_getElem_data]
    simp only [execOp, ho, hv, hn, Instr.index, asIntOf, Sem.run_bind, Sem.run_pure, Result.andThen_ok, h4, hg, hb]
  · rename_i cs k n e1 e2
    refine Sound.pure ?_
    rintro ⟨h1, h2, h3, ⟨b1, b2⟩, hl, h5⟩ a w hs
    have hp := hs.eval x hx
    rw [e1] at hp
    simp only [Has] at hp
    obtain ⟨vs, hp, hv⟩ := hp
    have hn := has_lit (by have := hs.eval i hi; rwa [e2] at this)
    have h4 := run_underlying (w := w) (ti_array hT h1 h2)
    obtain ⟨v, r1, r2⟩ := run_part hT h3 hv hl h5 w
    refine ⟨v, ?_, r2⟩
    simp [execOp, ho, hp, hn, Instr.index, asIntOf, h4, b1, b2, run_sizeOf' hT h3, r1]
  · exact Sound.no
end
end Go.Proofs.YtopigomfhggkoaaDoor.A
