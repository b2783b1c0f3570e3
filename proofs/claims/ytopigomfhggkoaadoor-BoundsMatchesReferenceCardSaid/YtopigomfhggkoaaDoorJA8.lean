/- Fields; elements; lengths; slices; and other operations. -/
import Derived.Test.YtopigomfhggkoaaDoorJA7
import Derived.Laws.Slices
set_option linter.unusedVariables false
set_option linter.unusedSimpArgs false
namespace Go.Proofs.YtopigomfhggkoaaDoor.A
open Go.RowKit
section
variable {E : Env} {o : Oper} {σ : St} {T : Tab}
theorem struct_at (hT : TabOk E.P T) {s f : Nat} {p : Nat × Nat} (hk : (T s).known = true) (h2 : (T s).kind = 2) (hf : (T s).fields[f]? = some p) : ∃ fs fd, E.P.underlying s = some (.struct fs) ∧ fs[f]? = some fd ∧ fd.offset = p.1 ∧ fd.type = p.2 := by
  obtain ⟨fs, h1, h3⟩ := ti_struct hT hk h2
  rw [← h3, List.getElem?_map] at hf
  obtain ⟨fd, hfd, rfl⟩ := Option.map_eq_some_iff.1 hf
  exact ⟨fs, fd, h1, by rw [← Array.getElem?_toList]; exact hfd, rfl, rfl⟩
def fieldAddrR (T : Tab) (s f : Nat) (x : AV) : Res := match (T s).fields[f]?, x with
  | some (fo, ft), .ptr d g off => R0 ((T s).known = true ∧ (T s).kind = 2 ∧ (T ft).known = true ∧ (T ft).size ≠ 0) (.ptr d g (off + fo))
  | some (fo, ft), .el row off => R0 ((T s).known = true ∧ (T s).kind = 2 ∧ (T ft).known = true ∧ (T ft).size ≠ 0) (.el row (off + fo))
  | some (fo, ft), .elo d u sz n off => R0 ((T s).known = true ∧ (T s).kind = 2 ∧ (T ft).known = true ∧ (T ft).size ≠ 0) (.elo d u sz n (off + fo))
  | _, _ => Rno
theorem run_fieldAddr (hT : TabOk E.P T) {s f : Nat} {x : Operand} (ho : o.op = .fieldAddr s x f) {fo ft : Nat} (hf : (T s).fields[f]? = some (fo, ft)) (hc : (T s).known = true ∧ (T s).kind = 2 ∧ (T ft).known = true ∧ (T ft).size ≠ 0)
    {a : Act} {w : World} {b off : Nat} (hx : a.eval x = .pointer (some ⟨b, off, none⟩)) : (execOp a.eval o).run E.P w = .ok (.value (.pointer (some ⟨b, off + fo, none⟩))) w := by
  obtain ⟨fs, fd, h1, h2, h3, h4⟩ := struct_at hT hc.1 hc.2.1 hf
  have h5 : (sizeOf fd.type).run E.P w = .ok (T ft).size w := by rw [h4]; exact run_sizeOf' hT hc.2.2.1 w
  simp [execOp, ho, hx, Instr.fieldAt, run_underlying h1, h2, Instr.sureAddr, fieldPlace, h5, hc.2.2.2, h3, Addr.add_lit]
theorem sound_fieldAddr (hT : TabOk E.P T) {s : TypeId} {f : Nat} {x : Operand} (ho : o.op = .fieldAddr s x f) (hx : opOk x = true) : Sound E o σ (fieldAddrR T s f (σ.eval x)) := by
  unfold fieldAddrR
  split
  · rename_i fo ft d g off hf e
    refine Sound.pure fun hc a w hs => ?_
    have hp := hs.eval x hx
    rw [e] at hp
    simp only [Has] at hp
    exact ⟨_, run_fieldAddr hT ho hf hc hp, by simp only [Has]⟩
  · rename_i fo ft row off hf e
    refine Sound.pure fun hc a w hs => ?_
    have hp := hs.eval x hx
    rw [e] at hp
    simp only [Has] at hp
    obtain ⟨b, o', hp, hr⟩ := hp
    exact ⟨_, run_fieldAddr hT ho hf hc hp, by simp only [Has]; exact ⟨b, o', by rw [Nat.add_assoc], hr⟩⟩
  · rename_i fo ft d u sz n off hf e
    refine Sound.pure fun hc a w hs => ?_
    have hp := hs.eval x hx
    rw [e] at hp
    simp only [Has] at hp
    obtain ⟨b, l, c, hu, hp⟩ := hp
    exact ⟨_, run_fieldAddr hT ho hf hc hp, by simp only [Has]; exact ⟨b, l, c, hu, by rw [Nat.add_assoc]⟩⟩
  · exact Sound.no
def fieldR (T : Tab) (s f : Nat) (x : AV) : Res := match (T s).fields[f]?, x with
  | some (fo, ft), .agg cs => R0 ((T s).known = true ∧ (T s).kind = 2 ∧ (T ft).known = true ∧ fo + (T ft).size ≤ cs.length ∧ ((T ft).agg = true ∨ (T ft).size = 1)) (takeA T ft cs fo)
  | _, _ => Rno
theorem run_part (hT : TabOk E.P T) {t : Nat} (hk : (T t).known = true) {m : Mem} {cs : List AV} {vs : List Value} (hv : HasL m cs vs) {off : Nat} (hl : off + (T t).size ≤ cs.length) (h1 : (T t).agg = true ∨ (T t).size = 1) (w : World) :
    ∃ v, (part t vs.toArray off).run E.P w = .ok v w ∧ Has m (takeA T t cs off) v := by
  have hvl := hv.length
  unfold takeA
  cases ha : (T t).agg with
  | true =>
    refine ⟨.agg ((vs.drop off).take (T t).size).toArray, ?_, ?_⟩
    · have : vs.toArray.extract off (off + (T t).size) = ((vs.drop off).take (T t).size).toArray := by
        simp [List.extract_toArray, List.extract_eq_take_drop]
      simp [part, run_isAgg hT hk, ha, run_sizeOf' hT hk, this]
    · simp only [if_true, Has]; exact ⟨_, rfl, (hv.drop off).take _⟩
  | false =>
    have hs1 : (T t).size = 1 := h1.resolve_left (by simp [ha])
    have hlt : off < cs.length := by omega
    obtain ⟨u, hu, hh⟩ := hv.get off cs[off] (List.getElem?_eq_getElem hlt)
    refine ⟨u, ?_, ?_⟩
    · have : vs.toArray[off]? = some u := by simpa using hu
      simp only [part, Sem.run_bind, run_isAgg hT hk, ha, Result.andThen_ok, Bool.false_eq_true, if_false, this]
      rfl
    · simp only [Bool.false_eq_true, if_false]
      rw [List.getD_eq_getElem?_getD, List.getElem?_eq_getElem hlt]
      exact hh
theorem sound_field (hT : TabOk E.P T) {s : TypeId} {f : Nat} {x : Operand} (ho : o.op = .field s x f) (hx : opOk x = true) : Sound E o σ (fieldR T s f (σ.eval x)) := by
  unfold fieldR
  split
  · rename_i fo ft cs hf e
    refine Sound.pure ?_
    rintro ⟨h1, h2, h3, h4, h5⟩ a w hs
    have hp := hs.eval x hx
    rw [e] at hp
    simp only [Has] at hp
    obtain ⟨vs, hp, hv⟩ := hp
    obtain ⟨fs, fd, k1, k2, k3, k4⟩ := struct_at hT h1 h2 hf
    obtain ⟨v, r1, r2⟩ := run_part hT h3 hv h4 h5 w
    exact ⟨v, by simp [execOp, ho, hp, Instr.field, run_underlying k1, k2, asAgg, k3, k4, r1], r2⟩
  · exact Sound.no
def inB (n : Int) (len : Nat) : Prop := 0 ≤ n ∧ n < len
def indexAddrR (T : Tab) (t : Nat) (x : AV) (ob : AObj) (i : AV) : Res := match i with
  | .d (.lit (.int _ n)) => match x, ob with
    | .d (.sl sz rows), _ => R0 ((T t).known = true ∧ (T t).kind = 1 ∧ (T (T t).elem).known = true ∧ sz = (T (T t).elem).size ∧ inB n rows.length) (.el (rows.getD n.toNat []) 0)
    | .own d u, .row v _ sz rows => R0 ((T t).known = true ∧ (T t).kind = 1 ∧ (T (T t).elem).known = true ∧ sz = (T (T t).elem).size ∧ u = v ∧ inB n rows.length) (.elo d u sz n.toNat 0)
    | .own d u, .fz v sz rows => R0 ((T t).known = true ∧ (T t).kind = 1 ∧ (T (T t).elem).known = true ∧ sz = (T (T t).elem).size ∧ u = v ∧ inB n rows.length) (.el (rows.getD n.toNat []) 0)
    | .ptr d g off, _ => R0 ((T t).known = true ∧ (T t).kind = 3 ∧ (T (T t).elem).known = true ∧ inB n (T t).alen) (.ptr d g (off + n.toNat * (T (T t).elem).size))
    | .el row off, _ => R0 ((T t).known = true ∧ (T t).kind = 3 ∧ (T (T t).elem).known = true ∧ inB n (T t).alen) (.el row (off + n.toNat * (T (T t).elem).size))
    | _, _ => Rno
  | _ => Rno
theorem run_index_slice (hT : TabOk E.P T) {t : Nat} {x i : Operand} (ho : o.op = .indexAddr t x i) (h1 : (T t).known = true) (h2 : (T t).kind = 1) (h3 : (T (T t).elem).known = true) {a : Act} {w : World} {b off len c : Nat} {k : IntKind} {n : Int}
    (hx : a.eval x = .slice (some ⟨b, off, none⟩) len c) (hi : a.eval i = .int k n) (hn : inB n len) : (execOp a.eval o).run E.P w = .ok (.value (.pointer (some ⟨b, off + n.toNat * (T (T t).elem).size, none⟩))) w := by
  have h4 := run_underlying (w := w) (ti_slice hT h1 h2)
  have hn' : 0 ≤ n ∧ n < (len : Int) := hn
  simp [execOp, ho, hx, hi, Instr.indexAt, asIntOf, h4, run_sizeOf' hT h3, hn'.1, hn'.2, Addr.add_lit]
theorem run_index_array (hT : TabOk E.P T) {t : Nat} {x i : Operand} (ho : o.op = .indexAddr t x i) (h1 : (T t).known = true) (h2 : (T t).kind = 3) (h3 : (T (T t).elem).known = true) {a : Act} {w : World} {b off : Nat} {k : IntKind} {n : Int}
    (hx : a.eval x = .pointer (some ⟨b, off, none⟩)) (hi : a.eval i = .int k n) (hn : inB n (T t).alen) : (execOp a.eval o).run E.P w = .ok (.value (.pointer (some ⟨b, off + n.toNat * (T (T t).elem).size, none⟩))) w := by
  have h4 := run_underlying (w := w) (ti_array hT h1 h2)
  have hn' : 0 ≤ n ∧ n < ((T t).alen : Int) := hn
  simp [execOp, ho, hx, hi, Instr.indexAt, asIntOf, h4, run_sizeOf' hT h3, Instr.sureAddr, hn'.1, hn'.2, Addr.add_lit]
theorem sound_indexAddr (hT : TabOk E.P T) {t : TypeId} {x i : Operand} (ho : o.op = .indexAddr t x i) (hx : opOk x = true) (hi : opOk i = true) (ob : AObj) (hO : ∀ d, names (σ.eval x) d → ob = objD σ.o d) : Sound E o σ (indexAddrR T t (σ.eval x) ob (σ.eval i)) := by
  unfold indexAddrR
  split
  · rename_i k n en
    have hiv : ∀ {a : Act} {w : World}, Sat E σ a w → a.eval i = .int k n := fun hs => has_lit (by have := hs.eval i hi; rwa [en] at this)
    split
    · rename_i sz rows e
      refine Sound.pure ?_
      rintro ⟨h1, h2, h3, hsz, hn⟩ a w hs
      have hp := hs.eval x hx
      rw [e] at hp
      simp only [Has, Rep] at hp
      obtain ⟨A, c, hp, _, _, hr⟩ := hp
      have hlt : n.toNat < rows.length := by have := hn.1; have := hn.2; omega
      rcases hr with hr | ⟨b, o', rfl, hr⟩
      · subst hr; simp at hlt
      · refine ⟨_, run_index_slice hT ho h1 h2 h3 hp (hiv hs) hn, ?_⟩
        obtain ⟨_, hrc⟩ := hr.get n.toNat (rows.getD n.toNat []) (by rw [List.getD_eq_getElem?_getD, List.getElem?_eq_getElem hlt]; rfl)
        simp only [Has]
        exact ⟨b, o' + n.toNat * sz, by rw [hsz]; rfl, hrc⟩
    · rename_i d u v e' sz rows e
      refine Sound.pure ?_
      rintro ⟨h1, h2, h3, hsz, rfl, hn⟩ a w hs
      have hp := hs.eval x hx
      have hob := hO d (by rw [e]; rfl)
      rw [e] at hp
      simp only [Has] at hp
      have h0 := objAt_objD hs.o d
      rw [← hob] at h0
      obtain ⟨xs, ⟨hxl, hxs⟩, hrv⟩ := h0
      have hlt : n.toNat < rows.length := by have := hn.1; have := hn.2; omega
      rcases hxs with ⟨_, h0⟩ | ⟨g, cap, cur, hv, _⟩
      · omega
      · subst hv
        refine ⟨_, run_index_slice hT ho h1 h2 h3 hp.1 (hiv hs) hn, ?_⟩
        simp only [Has]
        exact ⟨g, _, _, rfl, by rw [hsz]; simp⟩
    · rename_i d u v sz rows e
      refine Sound.pure ?_
      rintro ⟨h1, h2, h3, hsz, rfl, hn⟩ a w hs
      have hp := hs.eval x hx
      have hob := hO d (by rw [e]; rfl)
      rw [e] at hp
      simp only [Has] at hp
      have h0 := objAt_objD hs.o d
      rw [← hob] at h0
      simp only [ObjAt, Rep] at h0
      obtain ⟨A, c, rfl, _, _, hr⟩ := h0
      have hlt : n.toNat < rows.length := by have := hn.1; have := hn.2; omega
      rcases hr with hr | ⟨b, o', rfl, hr⟩
      · subst hr; simp at hlt
      · refine ⟨_, run_index_slice hT ho h1 h2 h3 hp.1 (hiv hs) hn, ?_⟩
        obtain ⟨_, hrc⟩ := hr.get n.toNat (rows.getD n.toNat []) (by rw [List.getD_eq_getElem?_getD, List.getElem?_eq_getElem hlt]; rfl)
        simp only [Has]
        exact ⟨b, o' + n.toNat * sz, by rw [hsz]; rfl, hrc⟩
    · rename_i d g off e
      refine Sound.pure ?_
      rintro ⟨h1, h2, h3, hn⟩ a w hs
      have hp := hs.eval x hx
      rw [e] at hp
      simp only [Has] at hp
      exact ⟨_, run_index_array hT ho h1 h2 h3 hp (hiv hs) hn, by simp only [Has]⟩
    · rename_i row off e
      refine Sound.pure ?_
      rintro ⟨h1, h2, h3, hn⟩ a w hs
      have hp := hs.eval x hx
      rw [e] at hp
      simp only [Has] at hp
      obtain ⟨b, o', hp, hr⟩ := hp
      exact ⟨_, run_index_array hT ho h1 h2 h3 hp (hiv hs) hn, by simp only [Has]; exact ⟨b, o', by rw [Nat.add_assoc], hr⟩⟩
    · exact Sound.no
  · exact Sound.no
def lenR (T : Tab) (t : Nat) (x : AV) (ob : AObj) : Res := match x, ob with
  | .d (.lit (.string s)), _ => R0 ((T t).known = true ∧ (T t).kind = 4) (litI .i64 s.size)
  | .d (.lit (.slice none 0 0)), _ => R0 ((T t).known = true ∧ (T t).kind = 1) (litI .i64 0)
  | .d (.sl _ rows), _ => R0 ((T t).known = true ∧ (T t).kind = 1) (litI .i64 rows.length)
  | .own _ u, .row v _ _ rows => R0 ((T t).known = true ∧ (T t).kind = 1 ∧ u = v) (litI .i64 rows.length)
  | .own _ u, .fz v _ rows => R0 ((T t).known = true ∧ (T t).kind = 1 ∧ u = v) (litI .i64 rows.length)
  | _, _ => Rno
theorem run_len_slice (hT : TabOk E.P T) {t ty : Nat} (h1 : (T t).known = true) (h2 : (T t).kind = 1) (A : Option Addr) (n c : Nat) (w : World) : (Builtin.len_ #[t] ty #[.slice A n c]).run E.P w = .ok (.int .i64 n) w := by
  have h4 := run_underlying (w := w) (ti_slice hT h1 h2)
  simp [Builtin.len_, h4, goInt]
theorem run_call_len {t : Nat} {x : Operand} {v u : Value} {a : Act} {w : World} (ho : o.op = .call { callee := .builtin .len, args := #[x], argTypes := #[t] }) (hx : a.eval x = v) (h : (Builtin.len_ #[t] o.type #[v]).run E.P w = .ok u w) :
    (execOp a.eval o).run E.P w = .ok (.value u) w := by
  simp [execOp, ho, resolve, invoke, builtin, hx, h]
theorem sound_len (hT : TabOk E.P T) {t : TypeId} {x : Operand} (ho : o.op = .call { callee := .builtin .len, args := #[x], argTypes := #[t] }) (hx : opOk x = true) (ob : AObj) (hO : ∀ d, names (σ.eval x) d → ob = objD σ.o d) : Sound E o σ (lenR T t (σ.eval x) ob) := by
  unfold lenR
  split
  · rename_i s e
    refine Sound.pure ?_
    rintro ⟨h1, h2⟩ a w hs
    have hv := has_lit (by have := hs.eval x hx; rwa [e] at this)
    have h4 := run_underlying (w := w) (ti_string hT h1 h2)
    exact ⟨_, run_call_len ho hv (by simp [Builtin.len_, h4, goInt]), has_lit_mk _ rfl⟩
  · rename_i e
    refine Sound.pure ?_
    rintro ⟨h1, h2⟩ a w hs
    have hv := has_lit (by have := hs.eval x hx; rwa [e] at this)
    exact ⟨_, run_call_len ho hv (run_len_slice hT h1 h2 _ _ _ w), has_lit_mk _ rfl⟩
  · rename_i sz rows e
    refine Sound.pure ?_
    rintro ⟨h1, h2⟩ a w hs
    have hp := hs.eval x hx
    rw [e] at hp
    simp only [Has, Rep] at hp
    obtain ⟨A, c, hp, _⟩ := hp
    exact ⟨_, run_call_len ho hp (run_len_slice hT h1 h2 _ _ _ w), has_lit_mk _ rfl⟩
  · rename_i d u v e' sz rows e
    refine Sound.pure ?_
    rintro ⟨h1, h2, rfl⟩ a w hs
    have hp := hs.eval x hx
    have hob := hO d (by rw [e]; rfl)
    rw [e] at hp
    simp only [Has] at hp
    have h0 := objAt_objD hs.o d
    rw [← hob] at h0
    obtain ⟨xs, ⟨hxl, hxs⟩, hrv⟩ := h0
    rcases hxs with ⟨rfl, h0⟩ | ⟨g, cap, cur, rfl, _⟩
    · exact ⟨_, run_call_len ho hp.1 (run_len_slice hT h1 h2 _ _ _ w), by rw [h0]; exact has_lit_mk _ rfl⟩
    · exact ⟨_, run_call_len ho hp.1 (run_len_slice hT h1 h2 _ _ _ w), has_lit_mk _ rfl⟩
  · rename_i d u v sz rows e
    refine Sound.pure ?_
    rintro ⟨h1, h2, rfl⟩ a w hs
    have hp := hs.eval x hx
    have hob := hO d (by rw [e]; rfl)
    rw [e] at hp
    simp only [Has] at hp
    have h0 := objAt_objD hs.o d
    rw [← hob] at h0
    simp only [ObjAt, Rep] at h0
    obtain ⟨A, c, rfl, _⟩ := h0
    exact ⟨_, run_call_len ho hp.1 (run_len_slice hT h1 h2 _ _ _ w), has_lit_mk _ rfl⟩
  · exact Sound.no
def extractR (i : Nat) (x : AV) : Res := match x with | .tup cs => R0 (i < cs.length) (cs.getD i .any) | _ => Rno
theorem sound_extract {x : Operand} {i : Nat} (ho : o.op = .extract x i) (hx : opOk x = true) : Sound E o σ (extractR i (σ.eval x)) := by
  unfold extractR
  split
  · rename_i cs e
    refine Sound.pure fun hi a w hs => ?_
    have hp := hs.eval x hx
    rw [e] at hp
    simp only [Has] at hp
    obtain ⟨vs, hp, hv⟩ := hp
    obtain ⟨v, h1, h2⟩ := hv.get i cs[i] (List.getElem?_eq_getElem hi)
    refine ⟨v, ?_, by rw [List.getD_eq_getElem?_getD, List.getElem?_eq_getElem hi]; exact h2⟩
    have : vs.toArray[i]? = some v := by simpa using h1
    simp only [execOp, ho, hp, Instr.extract, Sem.run_bind, this]
    rfl
  · exact Sound.no
theorem evalL {a : Act} {w : World} (hs : Sat E σ a w) : ∀ {l : List Operand}, l.all opOk = true → HasL (E.mem σ.o w) (l.map σ.eval) (l.map a.eval)
  | [], _ => by simp only [List.map_nil, HasL]
  | x :: l, h => by
    simp only [List.all_cons, Bool.and_eq_true] at h
    simp only [List.map_cons, HasL]
    exact ⟨hs.eval x h.1, evalL hs h.2⟩
theorem sound_makeFunc {fn : Fn} {caps : List Operand} (ho : o.op = .makeFunc fn #[] caps.toArray) (hx : caps.all opOk = true) : Sound E o σ (R0 True (.clo fn (caps.map σ.eval))) :=
  Sound.pure fun _ a w hs => ⟨.func fn #[] (caps.map a.eval).toArray, by simp [execOp, ho, Instr.makeFunc], by simp only [Has]; exact ⟨_, rfl, evalL hs hx⟩⟩
def convertR (T : Tab) (s t : Nat) (x : AV) : Res := match x with
  | .d (.lit (.int _ n)) => R0 ((T s).known = true ∧ (T t).known = true ∧ (T t).kind = 5) (litI (T t).ik ((T t).ik.wrap n))
  | .d (.lit (.string b)) => R0 ((T s).known = true ∧ (T t).known = true ∧ (T t).kind = 4) (litS b)
  | _ => Rno
theorem ti_und (hT : TabOk E.P T) {t : Nat} (hk : (T t).known = true) : ∃ d, E.P.underlying t = some d := by
  obtain ⟨info, d, h1, h2, _⟩ := hT t hk
  exact ⟨d, h2⟩
theorem sound_convert (hT : TabOk E.P T) {s t : TypeId} {x : Operand} (ho : o.op = .convert s t x) (hx : opOk x = true) : Sound E o σ (convertR T s t (σ.eval x)) := by
  unfold convertR
  split
  · rename_i k n e
    refine Sound.pure ?_
    rintro ⟨h0, h1, h2⟩ a w hs
    have hv := has_lit (by have := hs.eval x hx; rwa [e] at this)
    obtain ⟨d, hd⟩ := ti_und hT h0
    have h4 := run_underlying (w := w) (ti_int hT h1 h2)
    have h5 := run_underlying (w := w) hd
    refine ⟨_, ?_, has_lit_mk _ rfl⟩
    simp only [execOp, ho, hv, convert, Sem.run_bind, h4, h5, Result.andThen_ok]
    cases d <;> rfl
  · rename_i b e
    refine Sound.pure ?_
    rintro ⟨h0, h1, h2⟩ a w hs
    have hv := has_lit (by have := hs.eval x hx; rwa [e] at this)
    obtain ⟨d, hd⟩ := ti_und hT h0
    have h4 := run_underlying (w := w) (ti_string hT h1 h2)
    have h5 := run_underlying (w := w) hd
    refine ⟨_, ?_, has_lit_mk _ rfl⟩
    simp only [execOp, ho, hv, convert, Sem.run_bind, h4, h5, Result.andThen_ok]
    cases d <;> rfl
  · exact Sound.no
def maxR (x y : AV) : Res := match x, y with
  | .d (.lit (.int k a)), .d (.lit (.int _ b)) => R0 True (litI k (if b > a then b else a))
  | _, _ => Rno
theorem sound_max {x y : Operand} {ts : Array TypeId} (ho : o.op = .call { callee := .builtin .max, args := #[x, y], argTypes := ts }) (hx : opOk x = true) (hy : opOk y = true) : Sound E o σ (maxR (σ.eval x) (σ.eval y)) := by
  unfold maxR
  split
  · rename_i k n k' b e1 e2
    refine Sound.pure fun _ a w hs => ?_
    have h1 := has_lit (by have := hs.eval x hx; rwa [e1] at this)
    have h2 := has_lit (by have := hs.eval y hy; rwa [e2] at this)
    refine ⟨_, ?_, has_lit_mk _ rfl⟩
    simp [execOp, ho, resolve, invoke, builtin, h1, h2, Builtin.max_, Builtin.max2]
  · exact Sound.no
def minR (x y : AV) : Res := match x, y with
  | .d (.lit (.int k a)), .d (.lit (.int _ b)) => R0 True (litI k (if b < a then b else a))
  | _, _ => Rno
theorem sound_min {x y : Operand} {ts : Array TypeId} (ho : o.op = .call { callee := .builtin .min, args := #[x, y], argTypes := ts }) (hx : opOk x = true) (hy : opOk y = true) : Sound E o σ (minR (σ.eval x) (σ.eval y)) := by
  unfold minR
  split
  · rename_i k n k' b e1 e2
    refine Sound.pure fun _ a w hs => ?_
    have h1 := has_lit (by have := hs.eval x hx; rwa [e1] at this)
    have h2 := has_lit (by have := hs.eval y hy; rwa [e2] at this)
    refine ⟨_, ?_, has_lit_mk _ rfl⟩
    simp [execOp, ho, resolve, invoke, builtin, h1, h2, Builtin.min_, Builtin.min2]
  · exact Sound.no
end
end Go.Proofs.YtopigomfhggkoaaDoor.A
