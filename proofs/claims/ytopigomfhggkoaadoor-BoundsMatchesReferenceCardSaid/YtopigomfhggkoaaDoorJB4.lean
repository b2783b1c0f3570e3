/- Bytes as a string; a slice with its length for capacity. -/
import Derived.Test.YtopigomfhggkoaaDoorJB3
import Derived.Laws.BytesArg
set_option linter.unusedVariables false
set_option linter.unusedSimpArgs false
namespace Go.Proofs.YtopigomfhggkoaaDoor.A
open Go.RowKit
section
variable {E : Env} {o : Oper} {σ : St} {T : Tab}
def byteR (r : List Dat) : UInt8 := match r with
  | [.lit (.int .u8 n)] => UInt8.ofNat n.toNat
  | _ => 0
def isByteR (r : List Dat) : Prop := ∃ n : Int, r = [.lit (.int .u8 n)]
def convBR (T : Tab) (s t : Nat) (x : AV) (ob : AObj) : Res := match rowsA 1 x ob with
  | some rows => R0 ((T s).known = true ∧ (T s).kind = 1 ∧ (T (T s).elem).known = true ∧ (T (T s).elem).kind = 5 ∧ (T (T s).elem).ik = .u8 ∧ (T t).known = true ∧ (T t).kind = 4 ∧ rowsOk 1 x ob ∧ ∀ r ∈ rows, isByteR r) (litS ⟨(rows.map byteR).toArray⟩)
  | none => Rno
theorem bytes_vals {m : Mem} : ∀ {rows : List (List Dat)} {xs : List Value}, RowVals m 1 rows xs → (∀ r ∈ rows, isByteR r) → ∃ ns : List Int, xs = ns.map (Value.int .u8) ∧ rows.map byteR = ns.map (fun n => UInt8.ofNat n.toNat) ∧ ns.length = rows.length
  | [], xs, h, _ => by
    simp only [RowVals] at h
    subst h
    exact ⟨[], rfl, rfl, rfl⟩
  | r :: rows, xs, h, hb => by
    simp only [RowVals] at h
    obtain ⟨n, rfl⟩ := hb r (by simp)
    obtain ⟨ns, h1, h2, h3⟩ := bytes_vals h.2.2 (fun r hr => hb r (by simp [hr]))
    have h0 := h.2.1
    have hx : ∃ y ys, xs = y :: ys := by
      cases xs with
      | nil => simp [DatL] at h0
      | cons y ys => exact ⟨y, ys, rfl⟩
    obtain ⟨y, ys, rfl⟩ := hx
    simp only [List.take_succ_cons, List.take_zero, DatL, Rep] at h0
    obtain ⟨⟨rfl, _⟩, _⟩ := h0
    simp only [List.drop_succ_cons, List.drop_zero] at h1
    refine ⟨n :: ns, by rw [h1]; rfl, ?_, by simp [h3]⟩
    simp only [List.map_cons, h2]
    rfl
theorem sound_convB (hT : TabOk E.P T) {s t : TypeId} {x : Operand} (ho : o.op = .convert s t x) (hx : opOk x = true) (ob : AObj) (hO : ∀ m, (∀ (i : Nat) y, σ.o[i]? = some y → ObjAt m y) → ObjAt m ob) : Sound E o σ (convBR T s t (σ.eval x) ob) := by
  unfold convBR
  split
  case h_2 => exact Sound.no
  rename_i rows hrows
  refine Sound.pure ?_
  rintro ⟨h1, h2, h3, h4, h5, h6, h7, hk, hb⟩ a w hs
  have hv := hs.eval x hx
  have ts := ti_slice hT h1 h2
  have te := ti_int hT h3 h4
  rw [h5] at te
  have tt := ti_string hT h6 h7
  have hnil : ∀ l c, rows = [] → a.eval x = .slice none l c → ∃ v, (execOp a.eval o).run E.P w = .ok (.value v) w ∧ Has (E.mem σ.o w) (litS ⟨(rows.map byteR).toArray⟩) v := by
    rintro l c rfl e
    refine ⟨.string ByteArray.empty, ?_, has_lit_mk _ rfl⟩
    simp only [execOp, ho, e, Sem.run_bind, run_convert_bytes_nil w s _ ts te l c t tt, Result.andThen_ok]
    rfl
  rcases rows_read hrows hk hv (hO _ hs.o) with ⟨e, hn⟩ | ⟨A, c, e, hr⟩
  · exact hnil _ _ hn e
  · have main : ∀ (b off : Nat) (xs : List Value), A = some ⟨b, off, none⟩ → RowVals (E.mem σ.o w) 1 rows xs → (∀ i y, xs[i]? = some y → cellH w.heap b (off + i) = some y) → ∃ v, (execOp a.eval o).run E.P w = .ok (.value v) w ∧ Has (E.mem σ.o w) (litS ⟨(rows.map byteR).toArray⟩) v := by
      rintro b off xs rfl hrv hcl
      obtain ⟨ns, rfl, k2, k3⟩ := bytes_vals hrv hb
      refine ⟨.string (strOfNums ns), ?_, ?_⟩
      · have := run_convert_bytes_arg w s _ ts te b off rows.length c ns k3 (fun i hi => by
          rw [cellH_cell]
          exact hcl i _ (by rw [List.getElem?_map, List.getD_eq_getElem?_getD, List.getElem?_eq_getElem (by omega)]; rfl)) t tt
        simp only [execOp, ho, e, Sem.run_bind, this, Result.andThen_ok]
        rfl
      · rw [k2]
        exact has_lit_mk _ rfl
    rcases hr with rfl | ⟨b, off, xs, h8, h9, h10⟩
    · cases A with
      | none => exact hnil _ _ rfl e
      | some ad =>
        have hl0 : (Conv.bytesToString (.slice (some ad) 0 c)).run E.P w = .ok (.string ByteArray.empty) w := by
          have := run_bytesToString (P := E.P) w ad 0 c [] (by simp [loadCells, loadCellsFrom])
          simpa using this
        refine ⟨.string ByteArray.empty, ?_, has_lit_mk _ rfl⟩
        simp only [execOp, ho, e, Sem.run_bind, run_convert_bytes_string w s t _ _ _ _ ts te tt, List.length_nil, hl0, Result.andThen_ok]
        rfl
    · exact main b off xs h8 h9 h10
def convertR2 (T : Tab) (s t : Nat) (x : AV) (ob : AObj) : Res := match x with
  | .d (.lit (.int k n)) => convertR T s t (.d (.lit (.int k n)))
  | .d (.lit (.string b)) => convertR T s t (.d (.lit (.string b)))
  | x => convBR T s t x ob
theorem sound_convert2 (hT : TabOk E.P T) {s t : TypeId} {x : Operand} (ho : o.op = .convert s t x) (hx : opOk x = true) (ob : AObj) (hO : ∀ m, (∀ (i : Nat) y, σ.o[i]? = some y → ObjAt m y) → ObjAt m ob) : Sound E o σ (convertR2 T s t (σ.eval x) ob) := by
  unfold convertR2
  split
  · rename_i k n e
    rw [← e]; exact sound_convert hT ho hx
  · rename_i b e
    rw [← e]; exact sound_convert hT ho hx
  · exact sound_convB hT ho hx ob hO
def sliceMR (T : Tab) (t : Nat) (x : AV) (hi mx : Option AV) : Res := match x with
  | .d (.sl sz rows) => match bnd hi 0, bnd mx 0 with
    | some h, some m => R0 ((T t).known = true ∧ (T t).kind = 1 ∧ (T (T t).elem).known = true ∧ h = rows.length ∧ m = rows.length ∧ hi.isSome = true ∧ mx.isSome = true) (.d (.sl sz rows))
    | _, _ => Rno
  | _ => Rno
theorem sound_sliceM (hT : TabOk E.P T) {t : TypeId} {x hi mx : Operand} (ho : o.op = .slice t x none (some hi) (some mx)) (hx : opOk x = true) (hhi : opOk hi = true) (hmx : opOk mx = true) : Sound E o σ (sliceMR T t (σ.eval x) (some (σ.eval hi)) (some (σ.eval mx))) := by
  unfold sliceMR
  split
  case h_2 => exact Sound.no
  rename_i sz rows e
  split
  case h_2 => exact Sound.no
  rename_i h m eh em
  refine Sound.pure ?_
  rintro ⟨h1, h2, h3, rfl, rfl, _, _⟩ a w hs
  have hp := hs.eval x hx
  rw [e] at hp
  simp only [Has, Rep] at hp
  obtain ⟨A, c, hp, hc, hm, hr⟩ := hp
  have ev : ∀ {y : Operand} {n : Int}, opOk y = true → bnd (some (σ.eval y)) 0 = some n → ∃ k, a.eval y = .int k n := by
    intro y n hy he
    rcases bnd_eval (x := some y) (dflt := 0) (fun z hz => by cases hz; exact hy) he hs with ⟨hh, _⟩ | ⟨k, hk⟩
    · cases hh
    · exact ⟨k, by simpa using hk⟩
  obtain ⟨k1, e1⟩ := ev hhi eh
  obtain ⟨k2, e2⟩ := ev hmx em
  have h4 := run_underlying (w := w) (ti_slice hT h1 h2)
  have hsz := run_sizeOf' hT h3 w
  have hA : ∀ k, (A.map fun ad : Addr => ad.add (0 * k)) = A := fun k => by cases A <;> simp [Addr.add]
  have hb : (Instr.sliceBounds true rows.length c none (some (.int k1 (rows.length : Int))) (some (.int k2 (rows.length : Int)))).run E.P w = .ok (0, rows.length, rows.length) w := by
    simp [Instr.sliceBounds, run_sliceBound, hc]
  refine ⟨.slice A rows.length rows.length, ?_, ?_⟩
  · simp only [execOp, ho, hp, e1, e2, Instr.sliceAt, Instr.slice, h4, hb, hsz, Sem.run_bind, Result.andThen_ok, Option.map_none, Option.map_some, Sem.run_pure, hA, ite_self, Nat.sub_zero]
  · simp only [Has, Rep]
    exact ⟨_, _, rfl, Nat.le_refl _, by omega, hr⟩
end
end Go.Proofs.YtopigomfhggkoaaDoor.A
