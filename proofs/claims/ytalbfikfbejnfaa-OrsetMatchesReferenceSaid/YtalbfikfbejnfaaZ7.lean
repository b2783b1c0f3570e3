/- Data of the arguments' types. The law OrsetMatchesReference. -/
import Derived.Test.YtalbfikfbejnfaaZ6
import Derived.Test.YtalbfikfbejnfaaR2
/- Data of the arguments' types. -/
set_option linter.unusedVariables false
set_option linter.unusedSimpArgs false
namespace Go.Proofs.Ytalbfikfbejnfaa.A
open Go.RowKit
theorem i64_of {n : Int} (h : (Lit.int .i64 n).wf = true) : -9223372036854775808 ≤ n ∧ n ≤ 9223372036854775807 := bounds_i64 h
theorem ty3 {f : Nat} {ds : List Dat} (h : tyR T (f + 1) 3 ds) : ∃ n : Int, ds = [.lit (.int .i64 n)] := by
  simp only [tyR, T3, ti3] at h
  obtain ⟨n, h1, _⟩ := h
  exact ⟨n, h1⟩
theorem ty5 {f : Nat} {ds : List Dat} (h : tyR T (f + 1) 5 ds) : ∃ n : Int, ds = [.lit (.int .u8 n)] ∧ 0 ≤ n ∧ n < 256 := by
  simp only [tyR, T5, ti5] at h
  obtain ⟨n, h1, h2⟩ := h
  have := bounds_u8 h2
  exact ⟨n, h1, by omega⟩
theorem ty4 {f : Nat} {ds : List Dat} (h : tyR T (f + 1) 4 ds) : ∃ b : Bool, ds = [.lit (.bool b)] := by
  simp only [tyR, T4, ti4] at h
  exact h
theorem two_of {ds : List Dat} {a b : Dat} (h1 : ds.take 1 = [a]) (h2 : (ds.drop 1).take 1 = [b]) (h3 : (ds.drop 1).drop 1 = []) : ds = [a, b] := by
  match ds, h1, h2, h3 with
  | [x, y], h1, h2, _ => simp at h1 h2; rw [h1, h2]
  | [], h1, _, _ => simp at h1
  | [_], _, h2, _ => simp at h2
  | _ :: _ :: _ :: _, _, _, h3 => simp at h3
theorem ty25 {f : Nat} {ds : List Dat} (h : tyR T (f + 2) 25 ds) : ∃ n : Nm, ds = [.lit (.int .i64 n.1), .lit (.int .i64 n.2)] := by
  rw [tyR] at h
  simp only [T25, ti25, T3, ti3, List.map_cons, List.map_nil, StructR] at h
  obtain ⟨h1, h2, h3⟩ := h
  obtain ⟨a, h1⟩ := ty3 h1
  obtain ⟨b, h2⟩ := ty3 h2
  exact ⟨(a, b), two_of h1 h2 h3⟩
theorem ty23 {f : Nat} {ds : List Dat} (h : tyR T (f + 3) 23 ds) : ∃ l : List Nm, ds = [nms l] := by
  rw [tyR] at h
  simp only [T23, ti23, T25, ti25] at h
  obtain ⟨rows, rfl, h⟩ := h
  obtain ⟨l, rfl, _⟩ := rows_of (f := fun n : Nm => [Dat.lit (.int .i64 n.1), .lit (.int .i64 n.2)]) (Q := fun _ => True) h fun r hr => by
    obtain ⟨n, h⟩ := ty25 hr
    exact ⟨n, h, trivial⟩
  exact ⟨l, rfl⟩
theorem ty22 {f : Nat} {ds : List Dat} (h : tyR T (f + 2) 22 ds) : ∃ b : List Int, ds = [bytesD b] ∧ ∀ x ∈ b, 0 ≤ x ∧ x < 256 := by
  rw [tyR] at h
  simp only [T22, ti22, T5, ti5] at h
  obtain ⟨rows, rfl, h⟩ := h
  obtain ⟨l, rfl, hl⟩ := rows_of (f := fun n : Int => [Dat.lit (.int .u8 n)]) (Q := fun x => 0 ≤ x ∧ x < 256) h fun r hr => ty5 hr
  exact ⟨l, rfl, hl⟩
theorem ty26 {f : Nat} {ds : List Dat} (h : tyR T (f + 2) 26 ds) : ∃ b : List Int, ds = [ints b] := by
  rw [tyR] at h
  simp only [T26, ti26, T3, ti3] at h
  obtain ⟨rows, rfl, h⟩ := h
  obtain ⟨l, rfl, hl⟩ := rows_of (f := fun n : Int => [Dat.lit (.int .i64 n)]) (Q := fun x => True) h fun r hr => by
    obtain ⟨n, h⟩ := ty3 hr
    exact ⟨n, h, trivial⟩
  exact ⟨l, rfl⟩
theorem ty62 {f : Nat} {ds : List Dat} (h : tyR T (f + 3) 62 ds) : ∃ b c : List Int, ds = [bytesD b, bytesD c] ∧ (∀ x ∈ b, 0 ≤ x ∧ x < 256) ∧ ∀ x ∈ c, 0 ≤ x ∧ x < 256 := by
  rw [tyR] at h
  simp only [T62, ti62, T22, ti22, List.replicate_succ, List.replicate_zero, StructR] at h
  obtain ⟨h1, h2, h3⟩ := h
  obtain ⟨b, h1, hb⟩ := ty22 h1
  obtain ⟨c, h2, hc⟩ := ty22 h2
  exact ⟨b, c, two_of h1 h2 h3, hb, hc⟩
theorem tyRs_one {f t : Nat} {ts : List Nat} {dss : List (List Dat)} (h : tyRs T f (t :: ts) dss) : ∃ ds r, dss = ds :: r ∧ tyR T f t ds ∧ tyRs T f ts r := by
  cases dss with
  | nil => exact h.elim
  | cons ds r => exact ⟨ds, r, rfl, h.1, h.2⟩
theorem tyRs_nil {f : Nat} {dss : List (List Dat)} (h : tyRs T f [] dss) : dss = [] := by
  cases dss with
  | nil => rfl
  | cons ds r => exact h.elim
end Go.Proofs.Ytalbfikfbejnfaa.A

/- The law OrsetMatchesReference. -/
set_option linter.unusedVariables false
set_option linter.unusedSimpArgs false
namespace Go.Proofs.Ytalbfikfbejnfaa.A
theorem cut_eq {ds a r : List Dat} {k : Nat} (h1 : ds.take k = a) (h2 : ds.drop k = r) : ds = a ++ r := by
  rw [← h1, ← h2, List.take_append_drop]
theorem ty28 {f : Nat} {ds : List Dat} (h : tyR T (f + 3) 28 ds) : ∃ c : Ch, ds = [.lit (.int .i64 c.1.1), .lit (.int .i64 c.1.2), ints c.2.1, .lit (.bool c.2.2)] := by
  rw [tyR] at h
  simp only [T28, ti28, T25, ti25, T26, ti26, T4, ti4, List.map_cons, List.map_nil, StructR] at h
  obtain ⟨h1, h2, h3, h4⟩ := h
  obtain ⟨n, h1⟩ := ty25 h1
  obtain ⟨past, h2⟩ := ty26 h2
  obtain ⟨b, h3⟩ := ty4 h3
  exact ⟨(n, past, b), cut_eq h1 (cut_eq h2 (cut_eq h3 h4))⟩
theorem ty30 {f : Nat} {ds : List Dat} (h : tyR T (f + 4) 30 ds) : ∃ (l : List Nm) (c : List Int), ds = [nms l, ints c] := by
  rw [tyR] at h
  simp only [T30, ti30, T23, ti23, T26, ti26, List.map_cons, List.map_nil, StructR] at h
  obtain ⟨h1, h2, h3⟩ := h
  obtain ⟨l, h1⟩ := ty23 h1
  obtain ⟨c, h2⟩ := ty26 h2
  exact ⟨l, c, cut_eq h1 (cut_eq h2 h3)⟩
theorem ty32 {f : Nat} {ds : List Dat} (h : tyR T (f + 5) 32 ds) : ∃ z : Od, ds = [nms z.tags, .lit (.int .i64 z.c.1.1), .lit (.int .i64 z.c.1.2), ints z.c.2.1, .lit (.bool z.c.2.2), nms z.ta, ints z.sa, nms z.tb, ints z.sb] := by
  rw [tyR] at h
  simp only [T32, ti32, T23, ti23, T28, ti28, T30, ti30, List.map_cons, List.map_nil, StructR] at h
  obtain ⟨h1, h2, h3, h4, h5⟩ := h
  obtain ⟨l, h1⟩ := ty23 h1
  obtain ⟨c, h2⟩ := ty28 h2
  obtain ⟨ta, sa, h3⟩ := ty30 h3
  obtain ⟨tb, sb, h4⟩ := ty30 h4
  exact ⟨⟨l, c, ta, sa, tb, sb⟩, cut_eq h1 (cut_eq h2 (cut_eq h3 (cut_eq h4 h5)))⟩
/-- The law, for whatever reads as its arguments. -/
theorem law3_spec : ∀ dss, tyRs T 8 [22, 22, 32] dss → Spec Try.prog 3 (avTys T [22, 22, 32] dss) (.d (.lit (.bool true))) := by
  intro dss h
  obtain ⟨d0, r0, rfl, h0, h⟩ := tyRs_one h
  obtain ⟨d1, r1, rfl, h1, h⟩ := tyRs_one h
  obtain ⟨d2, r2, rfl, h2, h⟩ := tyRs_one h
  obtain rfl := tyRs_nil h
  obtain ⟨b0, rfl, hb0⟩ := ty22 h0
  obtain ⟨b1, rfl, hb1⟩ := ty22 h1
  obtain ⟨z, rfl⟩ := ty32 h2
  have := f3_spec b0 b1 hb0 hb1 z
  simp only [avTys, avTy, T32, ti32, T22, ti22, List.map_cons, List.map_nil, List.headD_cons, if_true, Bool.false_eq_true, if_false]
  exact this
end Go.Proofs.Ytalbfikfbejnfaa.A
