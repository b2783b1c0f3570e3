/- The types of the program: what is known of each. (Written by tab.py.) -/
import Derived.Test.YtopigomfhggkoaaDoorProg
import Derived.Test.YtopigomfhggkoaaDoorJC7
set_option linter.unusedVariables false
set_option linter.unusedSimpArgs false
namespace Go.Proofs.YtopigomfhggkoaaDoor.A
open Go.RowKit
def AllOk (P : Program) : List (Nat × TI) → Prop
  | [] => True
  | p :: l => TI.ok P p.1 p.2 ∧ AllOk P l
theorem tabOk_of {P : Program} : ∀ {l : List (Nat × TI)}, AllOk P l → TabOk P (fun t => (l.lookup t).getD {})
  | [], _, t, h => by simp [List.lookup] at h
  | (k, i) :: l, hl, t, h => by
    simp only [List.lookup] at h ⊢
    split
    · rename_i hk
      have := (beq_iff_eq.1 hk)
      subst this
      exact hl.1
    · rename_i hk
      rw [hk] at h
      exact tabOk_of hl.2 t h
theorem TI.ok_mk {P : Program} {t : Nat} {i : TI} {d : TypeDesc} (h1 : (P.info? t).map (fun i => (i.size, i.bytes, i.zero.map fun z => z.cells.toList)) = some (i.size, i.bytes, some i.zero)) (h5 : (match d with | .struct _ | .array _ _ => true | _ => false) = i.agg) (h2 : P.underlying t = some d)
    (h3 : i.zero.all (·.oneCell') = true) (h4 : i.zero.length = i.size)
    (k1 : i.kind = 1 → d = .slice i.elem) (k2 : i.kind = 2 → ∃ fs, d = .struct fs ∧ fs.toList.map (fun f => (f.offset, f.type)) = i.fields) (k3 : i.kind = 3 → d = .array i.alen i.elem) (k4 : i.kind = 4 → d = .string) (k5 : i.kind = 5 → d = .int i.ik) (k6 : i.kind = 6 → d = .bool) (k7 : (i.kind = 7 → d = .pointer i.elem) ∧ (i.kind = 9 → d = .map i.alen i.elem)) (k8 : i.eqk = true → P.stoodInHeld t = false ∧ P.eqGuardType P.depth t = false ∧ ∀ fs, d = .struct fs → (fs.toList.all fun f => f.name != "_") = true) : TI.ok P t i := by
  obtain ⟨info, e, he⟩ := Option.map_eq_some_iff.1 h1
  simp only [Prod.mk.injEq] at he
  exact ⟨info, d, e, h2, he.1, he.2.1, he.2.2, h3, h4, h5, k1, k2, k3, k4, k5, k6, k7, k8⟩
def ti1 : TI := { known := true, agg := false, size := 1, bytes := 8, zero := [.nilFunc], kind := 8 }
theorem ti1_ok : TI.ok Tryd.prog 1 ti1 := TI.ok_mk (by kernel_rfl) rfl Tryd.underlying1 rfl rfl (by simp [ti1]) (by first | (intro _; exact ⟨_, rfl, rfl⟩) | simp [ti1]) (by simp [ti1]) (by simp [ti1]) (by simp [ti1]) (by simp [ti1]) (by simp [ti1]) (by simp [ti1])
def ti2 : TI := { known := true, agg := false, size := 1, bytes := 8, zero := [.int .i64 0], kind := 5, ik := .i64 }
theorem ti2_ok : TI.ok Tryd.prog 2 ti2 := TI.ok_mk (by kernel_rfl) rfl Tryd.underlying2 rfl rfl (by simp [ti2]) (by first | (intro _; exact ⟨_, rfl, rfl⟩) | simp [ti2]) (by simp [ti2]) (by simp [ti2]) (by simp [ti2]) (by simp [ti2]) (by simp [ti2]) (by simp [ti2])
def ti3 : TI := { known := true, agg := false, size := 1, bytes := 8, zero := [.int .i64 0], kind := 5, ik := .i64 }
theorem ti3_ok : TI.ok Tryd.prog 3 ti3 := TI.ok_mk (by kernel_rfl) rfl Tryd.underlying3 rfl rfl (by simp [ti3]) (by first | (intro _; exact ⟨_, rfl, rfl⟩) | simp [ti3]) (by simp [ti3]) (by simp [ti3]) (by simp [ti3]) (by simp [ti3]) (by simp [ti3]) (by simp [ti3])
def ti4 : TI := { known := true, agg := false, size := 1, bytes := 1, zero := [.bool false], kind := 6 }
theorem ti4_ok : TI.ok Tryd.prog 4 ti4 := TI.ok_mk (by kernel_rfl) rfl Tryd.underlying4 rfl rfl (by simp [ti4]) (by first | (intro _; exact ⟨_, rfl, rfl⟩) | simp [ti4]) (by simp [ti4]) (by simp [ti4]) (by simp [ti4]) (by simp [ti4]) (by simp [ti4]) (by simp [ti4])
def ti5 : TI := { known := true, agg := false, size := 1, bytes := 1, zero := [.int .u8 0], kind := 5, ik := .u8 }
theorem ti5_ok : TI.ok Tryd.prog 5 ti5 := TI.ok_mk (by kernel_rfl) rfl Tryd.underlying5 rfl rfl (by simp [ti5]) (by first | (intro _; exact ⟨_, rfl, rfl⟩) | simp [ti5]) (by simp [ti5]) (by simp [ti5]) (by simp [ti5]) (by simp [ti5]) (by simp [ti5]) (by simp [ti5])
def ti6 : TI := { known := true, agg := false, size := 1, bytes := 1, zero := [.int .u8 0], kind := 5, ik := .u8 }
theorem ti6_ok : TI.ok Tryd.prog 6 ti6 := TI.ok_mk (by kernel_rfl) rfl Tryd.underlying6 rfl rfl (by simp [ti6]) (by first | (intro _; exact ⟨_, rfl, rfl⟩) | simp [ti6]) (by simp [ti6]) (by simp [ti6]) (by simp [ti6]) (by simp [ti6]) (by simp [ti6]) (by simp [ti6])
def ti7 : TI := { known := true, agg := true, size := 4, bytes := 24, zero := [.int .i64 0, .int .i64 0, .bool false, .int .u8 0], kind := 2, fields := [(0, 2), (1, 3), (2, 4), (3, 6)] }
theorem ti7_ok : TI.ok Tryd.prog 7 ti7 := TI.ok_mk (by kernel_rfl) rfl Tryd.underlying7 rfl rfl (by simp [ti7]) (by first | (intro _; exact ⟨_, rfl, rfl⟩) | simp [ti7]) (by simp [ti7]) (by simp [ti7]) (by simp [ti7]) (by simp [ti7]) (by simp [ti7]) (by simp [ti7])
def ti9 : TI := { known := true, agg := false, size := 1, bytes := 16, zero := [.string ⟨#[]⟩], kind := 4 }
theorem ti9_ok : TI.ok Tryd.prog 9 ti9 := TI.ok_mk (by kernel_rfl) rfl Tryd.underlying9 rfl rfl (by simp [ti9]) (by first | (intro _; exact ⟨_, rfl, rfl⟩) | simp [ti9]) (by simp [ti9]) (by simp [ti9]) (by simp [ti9]) (by simp [ti9]) (by simp [ti9]) (by simp [ti9])
def ti10 : TI := { known := true, agg := false, size := 1, bytes := 16, zero := [.string ⟨#[]⟩], kind := 4 }
theorem ti10_ok : TI.ok Tryd.prog 10 ti10 := TI.ok_mk (by kernel_rfl) rfl Tryd.underlying10 rfl rfl (by simp [ti10]) (by first | (intro _; exact ⟨_, rfl, rfl⟩) | simp [ti10]) (by simp [ti10]) (by simp [ti10]) (by simp [ti10]) (by simp [ti10]) (by simp [ti10]) (by simp [ti10])
def ti15 : TI := { known := true, agg := false, size := 1, bytes := 8, zero := [.pointer none], kind := 7, elem := 137 }
theorem ti15_ok : TI.ok Tryd.prog 15 ti15 := TI.ok_mk (by kernel_rfl) rfl Tryd.underlying15 rfl rfl (by simp [ti15]) (by first | (intro _; exact ⟨_, rfl, rfl⟩) | simp [ti15]) (by simp [ti15]) (by simp [ti15]) (by simp [ti15]) (by simp [ti15]) (by simp [ti15]) (by simp [ti15])
def ti22 : TI := { known := true, agg := false, size := 1, bytes := 24, zero := [.slice none 0 0], kind := 1, elem := 26 }
theorem ti22_ok : TI.ok Tryd.prog 22 ti22 := TI.ok_mk (by kernel_rfl) rfl Tryd.underlying22 rfl rfl (by simp [ti22]) (by first | (intro _; exact ⟨_, rfl, rfl⟩) | simp [ti22]) (by simp [ti22]) (by simp [ti22]) (by simp [ti22]) (by simp [ti22]) (by simp [ti22]) (by simp [ti22])
def ti23 : TI := { known := true, agg := false, size := 1, bytes := 24, zero := [.slice none 0 0], kind := 1, elem := 5 }
theorem ti23_ok : TI.ok Tryd.prog 23 ti23 := TI.ok_mk (by kernel_rfl) rfl Tryd.underlying23 rfl rfl (by simp [ti23]) (by first | (intro _; exact ⟨_, rfl, rfl⟩) | simp [ti23]) (by simp [ti23]) (by simp [ti23]) (by simp [ti23]) (by simp [ti23]) (by simp [ti23]) (by simp [ti23])
def ti24 : TI := { known := true, agg := true, size := 3, bytes := 72, zero := [.slice none 0 0, .slice none 0 0, .slice none 0 0], kind := 3, alen := 3, elem := 23 }
theorem ti24_ok : TI.ok Tryd.prog 24 ti24 := TI.ok_mk (by kernel_rfl) rfl Tryd.underlying24 rfl rfl (by simp [ti24]) (by first | (intro _; exact ⟨_, rfl, rfl⟩) | simp [ti24]) (by simp [ti24]) (by simp [ti24]) (by simp [ti24]) (by simp [ti24]) (by simp [ti24]) (by simp [ti24])
def ti26 : TI := { known := true, agg := true, size := 3, bytes := 32, zero := [.int .i64 0, .int .i64 0, .string ⟨#[]⟩], kind := 2, fields := [(0, 3), (1, 3), (2, 9)], eqk := true }
theorem ti26_ok : TI.ok Tryd.prog 26 ti26 := TI.ok_mk (by kernel_rfl) rfl Tryd.underlying26 rfl rfl (by simp [ti26]) (by first | (intro _; exact ⟨_, rfl, rfl⟩) | simp [ti26]) (by simp [ti26]) (by simp [ti26]) (by simp [ti26]) (by simp [ti26]) (by simp [ti26]) (fun _ => ⟨by kernel_rfl, by kernel_rfl, fun fs h => by first | (cases h; done) | (cases h; rfl)⟩)
def ti28 : TI := { known := true, agg := true, size := 9, bytes := 88, zero := [.int .i64 0, .bool false, .int .i64 0, .int .i64 0, .string ⟨#[]⟩, .int .i64 0, .int .i64 0, .string ⟨#[]⟩, .int .i64 0], kind := 2, fields := [(0, 3), (1, 4), (2, 26), (5, 26), (8, 3)], eqk := true }
theorem ti28_ok : TI.ok Tryd.prog 28 ti28 := TI.ok_mk (by kernel_rfl) rfl Tryd.underlying28 rfl rfl (by simp [ti28]) (by first | (intro _; exact ⟨_, rfl, rfl⟩) | simp [ti28]) (by simp [ti28]) (by simp [ti28]) (by simp [ti28]) (by simp [ti28]) (by simp [ti28]) (fun _ => ⟨by kernel_rfl, by kernel_rfl, fun fs h => by first | (cases h; done) | (cases h; rfl)⟩)
def ti29 : TI := { known := true, agg := true, size := 27, bytes := 264, zero := [.int .i64 0, .bool false, .int .i64 0, .int .i64 0, .string ⟨#[]⟩, .int .i64 0, .int .i64 0, .string ⟨#[]⟩, .int .i64 0, .int .i64 0, .bool false, .int .i64 0, .int .i64 0, .string ⟨#[]⟩, .int .i64 0, .int .i64 0, .string ⟨#[]⟩, .int .i64 0, .int .i64 0, .bool false, .int .i64 0, .int .i64 0, .string ⟨#[]⟩, .int .i64 0, .int .i64 0, .string ⟨#[]⟩, .int .i64 0], kind := 3, alen := 3, elem := 28, eqk := true }
theorem ti29_ok : TI.ok Tryd.prog 29 ti29 := TI.ok_mk (by kernel_rfl) rfl Tryd.underlying29 rfl rfl (by simp [ti29]) (by first | (intro _; exact ⟨_, rfl, rfl⟩) | simp [ti29]) (by simp [ti29]) (by simp [ti29]) (by simp [ti29]) (by simp [ti29]) (by simp [ti29]) (fun _ => ⟨by kernel_rfl, by kernel_rfl, fun fs h => by first | (cases h; done) | (cases h; rfl)⟩)
def ti31 : TI := { known := true, agg := false, size := 1, bytes := 24, zero := [.slice none 0 0], kind := 1, elem := 67 }
theorem ti31_ok : TI.ok Tryd.prog 31 ti31 := TI.ok_mk (by kernel_rfl) rfl Tryd.underlying31 rfl rfl (by simp [ti31]) (by first | (intro _; exact ⟨_, rfl, rfl⟩) | simp [ti31]) (by simp [ti31]) (by simp [ti31]) (by simp [ti31]) (by simp [ti31]) (by simp [ti31]) (by simp [ti31])
def ti33 : TI := { known := true, agg := false, size := 1, bytes := 24, zero := [.slice none 0 0], kind := 1, elem := 35 }
theorem ti33_ok : TI.ok Tryd.prog 33 ti33 := TI.ok_mk (by kernel_rfl) rfl Tryd.underlying33 rfl rfl (by simp [ti33]) (by first | (intro _; exact ⟨_, rfl, rfl⟩) | simp [ti33]) (by simp [ti33]) (by simp [ti33]) (by simp [ti33]) (by simp [ti33]) (by simp [ti33]) (by simp [ti33])
def ti35 : TI := { known := true, agg := true, size := 6, bytes := 72, zero := [.int .i64 0, .int .i64 0, .int .i64 0, .int .i64 0, .string ⟨#[]⟩, .slice none 0 0], kind := 2, fields := [(0, 3), (1, 3), (2, 26), (5, 33)] }
theorem ti35_ok : TI.ok Tryd.prog 35 ti35 := TI.ok_mk (by kernel_rfl) rfl Tryd.underlying35 rfl rfl (by simp [ti35]) (by first | (intro _; exact ⟨_, rfl, rfl⟩) | simp [ti35]) (by simp [ti35]) (by simp [ti35]) (by simp [ti35]) (by simp [ti35]) (by simp [ti35]) (by simp [ti35])
def ti37 : TI := { known := true, agg := false, size := 1, bytes := 24, zero := [.slice none 0 0], kind := 1, elem := 22 }
theorem ti37_ok : TI.ok Tryd.prog 37 ti37 := TI.ok_mk (by kernel_rfl) rfl Tryd.underlying37 rfl rfl (by simp [ti37]) (by first | (intro _; exact ⟨_, rfl, rfl⟩) | simp [ti37]) (by simp [ti37]) (by simp [ti37]) (by simp [ti37]) (by simp [ti37]) (by simp [ti37]) (by simp [ti37])
def ti39 : TI := { known := true, agg := false, size := 1, bytes := 24, zero := [.slice none 0 0], kind := 1, elem := 23 }
theorem ti39_ok : TI.ok Tryd.prog 39 ti39 := TI.ok_mk (by kernel_rfl) rfl Tryd.underlying39 rfl rfl (by simp [ti39]) (by first | (intro _; exact ⟨_, rfl, rfl⟩) | simp [ti39]) (by simp [ti39]) (by simp [ti39]) (by simp [ti39]) (by simp [ti39]) (by simp [ti39]) (by simp [ti39])
def ti40 : TI := { known := true, agg := false, size := 1, bytes := 24, zero := [.slice none 0 0], kind := 1, elem := 28 }
theorem ti40_ok : TI.ok Tryd.prog 40 ti40 := TI.ok_mk (by kernel_rfl) rfl Tryd.underlying40 rfl rfl (by simp [ti40]) (by first | (intro _; exact ⟨_, rfl, rfl⟩) | simp [ti40]) (by simp [ti40]) (by simp [ti40]) (by simp [ti40]) (by simp [ti40]) (by simp [ti40]) (by simp [ti40])
def ti42 : TI := { known := true, agg := false, size := 1, bytes := 8, zero := [.int .i64 0], kind := 5, ik := .i64 }
theorem ti42_ok : TI.ok Tryd.prog 42 ti42 := TI.ok_mk (by kernel_rfl) rfl Tryd.underlying42 rfl rfl (by simp [ti42]) (by first | (intro _; exact ⟨_, rfl, rfl⟩) | simp [ti42]) (by simp [ti42]) (by simp [ti42]) (by simp [ti42]) (by simp [ti42]) (by simp [ti42]) (by simp [ti42])
def ti44 : TI := { known := true, agg := true, size := 10, bytes := 96, zero := [.int .i64 0, .bool false, .int .i64 0, .int .i64 0, .string ⟨#[]⟩, .int .i64 0, .int .i64 0, .string ⟨#[]⟩, .int .i64 0, .int .i64 0], kind := 2, fields := [(0, 28), (9, 42)], eqk := true }
theorem ti44_ok : TI.ok Tryd.prog 44 ti44 := TI.ok_mk (by kernel_rfl) rfl Tryd.underlying44 rfl rfl (by simp [ti44]) (by first | (intro _; exact ⟨_, rfl, rfl⟩) | simp [ti44]) (by simp [ti44]) (by simp [ti44]) (by simp [ti44]) (by simp [ti44]) (by simp [ti44]) (fun _ => ⟨by kernel_rfl, by kernel_rfl, fun fs h => by first | (cases h; done) | (cases h; rfl)⟩)
def ti49 : TI := { known := true, agg := false, size := 1, bytes := 24, zero := [.slice none 0 0], kind := 1, elem := 40 }
theorem ti49_ok : TI.ok Tryd.prog 49 ti49 := TI.ok_mk (by kernel_rfl) rfl Tryd.underlying49 rfl rfl (by simp [ti49]) (by first | (intro _; exact ⟨_, rfl, rfl⟩) | simp [ti49]) (by simp [ti49]) (by simp [ti49]) (by simp [ti49]) (by simp [ti49]) (by simp [ti49]) (by simp [ti49])
def ti51 : TI := { known := true, agg := true, size := 3, bytes := 3, zero := [.bool false, .bool false, .bool false], kind := 3, alen := 3, elem := 4, eqk := true }
theorem ti51_ok : TI.ok Tryd.prog 51 ti51 := TI.ok_mk (by kernel_rfl) rfl Tryd.underlying51 rfl rfl (by simp [ti51]) (by first | (intro _; exact ⟨_, rfl, rfl⟩) | simp [ti51]) (by simp [ti51]) (by simp [ti51]) (by simp [ti51]) (by simp [ti51]) (by simp [ti51]) (fun _ => ⟨by kernel_rfl, by kernel_rfl, fun fs h => by first | (cases h; done) | (cases h; rfl)⟩)
def ti58 : TI := { known := true, agg := true, size := 2, bytes := 48, zero := [.slice none 0 0, .slice none 0 0], kind := 3, alen := 2, elem := 23 }
theorem ti58_ok : TI.ok Tryd.prog 58 ti58 := TI.ok_mk (by kernel_rfl) rfl Tryd.underlying58 rfl rfl (by simp [ti58]) (by first | (intro _; exact ⟨_, rfl, rfl⟩) | simp [ti58]) (by simp [ti58]) (by simp [ti58]) (by simp [ti58]) (by simp [ti58]) (by simp [ti58]) (by simp [ti58])
def ti67 : TI := { known := true, agg := true, size := 3, bytes := 24, zero := [.int .i64 0, .int .i64 0, .bool false], kind := 2, fields := [(0, 3), (1, 3), (2, 4)], eqk := true }
theorem ti67_ok : TI.ok Tryd.prog 67 ti67 := TI.ok_mk (by kernel_rfl) rfl Tryd.underlying67 rfl rfl (by simp [ti67]) (by first | (intro _; exact ⟨_, rfl, rfl⟩) | simp [ti67]) (by simp [ti67]) (by simp [ti67]) (by simp [ti67]) (by simp [ti67]) (by simp [ti67]) (fun _ => ⟨by kernel_rfl, by kernel_rfl, fun fs h => by first | (cases h; done) | (cases h; rfl)⟩)
def ti69 : TI := { known := true, agg := true, size := 2, bytes := 32, zero := [.slice none 0 0, .int .i64 0], kind := 2, fields := [(0, 23), (1, 3)] }
theorem ti69_ok : TI.ok Tryd.prog 69 ti69 := TI.ok_mk (by kernel_rfl) rfl Tryd.underlying69 rfl rfl (by simp [ti69]) (by first | (intro _; exact ⟨_, rfl, rfl⟩) | simp [ti69]) (by simp [ti69]) (by simp [ti69]) (by simp [ti69]) (by simp [ti69]) (by simp [ti69]) (by simp [ti69])
def ti71 : TI := { known := true, agg := true, size := 8, bytes := 104, zero := [.int .i64 0, .int .i64 0, .int .i64 0, .int .i64 0, .string ⟨#[]⟩, .slice none 0 0, .slice none 0 0, .int .i64 0], kind := 2, fields := [(0, 35), (6, 69)] }
theorem ti71_ok : TI.ok Tryd.prog 71 ti71 := TI.ok_mk (by kernel_rfl) rfl Tryd.underlying71 rfl rfl (by simp [ti71]) (by first | (intro _; exact ⟨_, rfl, rfl⟩) | simp [ti71]) (by simp [ti71]) (by simp [ti71]) (by simp [ti71]) (by simp [ti71]) (by simp [ti71]) (by simp [ti71])
def ti76 : TI := { known := true, agg := false, size := 1, bytes := 24, zero := [.slice none 0 0], kind := 1, elem := 3 }
theorem ti76_ok : TI.ok Tryd.prog 76 ti76 := TI.ok_mk (by kernel_rfl) rfl Tryd.underlying76 rfl rfl (by simp [ti76]) (by first | (intro _; exact ⟨_, rfl, rfl⟩) | simp [ti76]) (by simp [ti76]) (by simp [ti76]) (by simp [ti76]) (by simp [ti76]) (by simp [ti76]) (by simp [ti76])
def ti80 : TI := { known := true, agg := true, size := 2, bytes := 16, zero := [.int .i64 0, .int .i64 0], kind := 2, fields := [(0, 3), (1, 42)], eqk := true }
theorem ti80_ok : TI.ok Tryd.prog 80 ti80 := TI.ok_mk (by kernel_rfl) rfl Tryd.underlying80 rfl rfl (by simp [ti80]) (by first | (intro _; exact ⟨_, rfl, rfl⟩) | simp [ti80]) (by simp [ti80]) (by simp [ti80]) (by simp [ti80]) (by simp [ti80]) (by simp [ti80]) (fun _ => ⟨by kernel_rfl, by kernel_rfl, fun fs h => by first | (cases h; done) | (cases h; rfl)⟩)
def ti84 : TI := { known := true, agg := true, size := 4, bytes := 32, zero := [.int .i64 0, .int .i64 0, .bool false, .int .i64 0], kind := 2, fields := [(0, 67), (3, 42)], eqk := true }
theorem ti84_ok : TI.ok Tryd.prog 84 ti84 := TI.ok_mk (by kernel_rfl) rfl Tryd.underlying84 rfl rfl (by simp [ti84]) (by first | (intro _; exact ⟨_, rfl, rfl⟩) | simp [ti84]) (by simp [ti84]) (by simp [ti84]) (by simp [ti84]) (by simp [ti84]) (by simp [ti84]) (fun _ => ⟨by kernel_rfl, by kernel_rfl, fun fs h => by first | (cases h; done) | (cases h; rfl)⟩)
def ti87 : TI := { known := true, agg := true, size := 8, bytes := 72, zero := [.bool false, .bool false, .int .i64 0, .int .i64 0, .string ⟨#[]⟩, .int .i64 0, .int .i64 0, .string ⟨#[]⟩], kind := 2, fields := [(0, 4), (1, 4), (2, 26), (5, 26)], eqk := true }
theorem ti87_ok : TI.ok Tryd.prog 87 ti87 := TI.ok_mk (by kernel_rfl) rfl Tryd.underlying87 rfl rfl (by simp [ti87]) (by first | (intro _; exact ⟨_, rfl, rfl⟩) | simp [ti87]) (by simp [ti87]) (by simp [ti87]) (by simp [ti87]) (by simp [ti87]) (by simp [ti87]) (fun _ => ⟨by kernel_rfl, by kernel_rfl, fun fs h => by first | (cases h; done) | (cases h; rfl)⟩)
def ti90 : TI := { known := true, agg := true, size := 8, bytes := 72, zero := [.bool false, .bool false, .int .i64 0, .int .i64 0, .string ⟨#[]⟩, .int .i64 0, .int .i64 0, .string ⟨#[]⟩], kind := 2, fields := [(0, 4), (1, 4), (2, 26), (5, 26)], eqk := true }
theorem ti90_ok : TI.ok Tryd.prog 90 ti90 := TI.ok_mk (by kernel_rfl) rfl Tryd.underlying90 rfl rfl (by simp [ti90]) (by first | (intro _; exact ⟨_, rfl, rfl⟩) | simp [ti90]) (by simp [ti90]) (by simp [ti90]) (by simp [ti90]) (by simp [ti90]) (by simp [ti90]) (fun _ => ⟨by kernel_rfl, by kernel_rfl, fun fs h => by first | (cases h; done) | (cases h; rfl)⟩)
def ti95 : TI := { known := true, agg := true, size := 2, bytes := 2, zero := [.int .u8 0, .int .u8 0], kind := 3, alen := 2, elem := 5, eqk := true }
theorem ti95_ok : TI.ok Tryd.prog 95 ti95 := TI.ok_mk (by kernel_rfl) rfl Tryd.underlying95 rfl rfl (by simp [ti95]) (by first | (intro _; exact ⟨_, rfl, rfl⟩) | simp [ti95]) (by simp [ti95]) (by simp [ti95]) (by simp [ti95]) (by simp [ti95]) (by simp [ti95]) (fun _ => ⟨by kernel_rfl, by kernel_rfl, fun fs h => by first | (cases h; done) | (cases h; rfl)⟩)
def ti100 : TI := { known := true, agg := true, size := 2, bytes := 16, zero := [.int .i64 0, .int .i64 0], kind := 3, alen := 2, elem := 3, eqk := true }
theorem ti100_ok : TI.ok Tryd.prog 100 ti100 := TI.ok_mk (by kernel_rfl) rfl Tryd.underlying100 rfl rfl (by simp [ti100]) (by first | (intro _; exact ⟨_, rfl, rfl⟩) | simp [ti100]) (by simp [ti100]) (by simp [ti100]) (by simp [ti100]) (by simp [ti100]) (by simp [ti100]) (fun _ => ⟨by kernel_rfl, by kernel_rfl, fun fs h => by first | (cases h; done) | (cases h; rfl)⟩)
def ti103 : TI := { known := true, agg := false, size := 1, bytes := 8, zero := [.nilFunc], kind := 8 }
theorem ti103_ok : TI.ok Tryd.prog 103 ti103 := TI.ok_mk (by kernel_rfl) rfl Tryd.underlying103 rfl rfl (by simp [ti103]) (by first | (intro _; exact ⟨_, rfl, rfl⟩) | simp [ti103]) (by simp [ti103]) (by simp [ti103]) (by simp [ti103]) (by simp [ti103]) (by simp [ti103]) (by simp [ti103])
def ti108 : TI := { known := true, agg := true, size := 16, bytes := 144, zero := [.bool false, .bool false, .int .i64 0, .int .i64 0, .string ⟨#[]⟩, .int .i64 0, .int .i64 0, .string ⟨#[]⟩, .bool false, .bool false, .int .i64 0, .int .i64 0, .string ⟨#[]⟩, .int .i64 0, .int .i64 0, .string ⟨#[]⟩], kind := 3, alen := 2, elem := 87, eqk := true }
theorem ti108_ok : TI.ok Tryd.prog 108 ti108 := TI.ok_mk (by kernel_rfl) rfl Tryd.underlying108 rfl rfl (by simp [ti108]) (by first | (intro _; exact ⟨_, rfl, rfl⟩) | simp [ti108]) (by simp [ti108]) (by simp [ti108]) (by simp [ti108]) (by simp [ti108]) (by simp [ti108]) (fun _ => ⟨by kernel_rfl, by kernel_rfl, fun fs h => by first | (cases h; done) | (cases h; rfl)⟩)
def ti109 : TI := { known := true, agg := false, size := 1, bytes := 8, zero := [.nilFunc], kind := 8 }
theorem ti109_ok : TI.ok Tryd.prog 109 ti109 := TI.ok_mk (by kernel_rfl) rfl Tryd.underlying109 rfl rfl (by simp [ti109]) (by first | (intro _; exact ⟨_, rfl, rfl⟩) | simp [ti109]) (by simp [ti109]) (by simp [ti109]) (by simp [ti109]) (by simp [ti109]) (by simp [ti109]) (by simp [ti109])
def ti111 : TI := { known := true, agg := false, size := 1, bytes := 8, zero := [.map none], kind := 9, alen := 3, elem := 109 }
theorem ti111_ok : TI.ok Tryd.prog 111 ti111 := TI.ok_mk (by kernel_rfl) rfl Tryd.underlying111 rfl rfl (by simp [ti111]) (by first | (intro _; exact ⟨_, rfl, rfl⟩) | simp [ti111]) (by simp [ti111]) (by simp [ti111]) (by simp [ti111]) (by simp [ti111]) (by simp [ti111]) (by simp [ti111])
def ti112 : TI := { known := true, agg := false, size := 1, bytes := 8, zero := [.map none], kind := 9, alen := 4, elem := 26 }
theorem ti112_ok : TI.ok Tryd.prog 112 ti112 := TI.ok_mk (by kernel_rfl) rfl Tryd.underlying112 rfl rfl (by simp [ti112]) (by first | (intro _; exact ⟨_, rfl, rfl⟩) | simp [ti112]) (by simp [ti112]) (by simp [ti112]) (by simp [ti112]) (by simp [ti112]) (by simp [ti112]) (by simp [ti112])
def ti113 : TI := { known := true, agg := false, size := 1, bytes := 24, zero := [.slice none 0 0], kind := 1, elem := 90 }
theorem ti113_ok : TI.ok Tryd.prog 113 ti113 := TI.ok_mk (by kernel_rfl) rfl Tryd.underlying113 rfl rfl (by simp [ti113]) (by first | (intro _; exact ⟨_, rfl, rfl⟩) | simp [ti113]) (by simp [ti113]) (by simp [ti113]) (by simp [ti113]) (by simp [ti113]) (by simp [ti113]) (by simp [ti113])
def ti124 : TI := { known := true, agg := true, size := 4, bytes := 32, zero := [.nilFunc, .nilFunc, .nilFunc, .nilFunc], kind := 3, alen := 4, elem := 103 }
theorem ti124_ok : TI.ok Tryd.prog 124 ti124 := TI.ok_mk (by kernel_rfl) rfl Tryd.underlying124 rfl rfl (by simp [ti124]) (by first | (intro _; exact ⟨_, rfl, rfl⟩) | simp [ti124]) (by simp [ti124]) (by simp [ti124]) (by simp [ti124]) (by simp [ti124]) (by simp [ti124]) (by simp [ti124])
def ti128 : TI := { known := true, agg := false, size := 1, bytes := 24, zero := [.slice none 0 0], kind := 1, elem := 9 }
theorem ti128_ok : TI.ok Tryd.prog 128 ti128 := TI.ok_mk (by kernel_rfl) rfl Tryd.underlying128 rfl rfl (by simp [ti128]) (by first | (intro _; exact ⟨_, rfl, rfl⟩) | simp [ti128]) (by simp [ti128]) (by simp [ti128]) (by simp [ti128]) (by simp [ti128]) (by simp [ti128]) (by simp [ti128])
def ti129 : TI := { known := true, agg := false, size := 1, bytes := 8, zero := [.int .u64 0], kind := 5, ik := .u64 }
theorem ti129_ok : TI.ok Tryd.prog 129 ti129 := TI.ok_mk (by kernel_rfl) rfl Tryd.underlying129 rfl rfl (by simp [ti129]) (by first | (intro _; exact ⟨_, rfl, rfl⟩) | simp [ti129]) (by simp [ti129]) (by simp [ti129]) (by simp [ti129]) (by simp [ti129]) (by simp [ti129]) (by simp [ti129])
def tabL : List (Nat × TI) := [(1, ti1), (2, ti2), (3, ti3), (4, ti4), (5, ti5), (6, ti6), (7, ti7), (9, ti9), (10, ti10), (15, ti15), (22, ti22), (23, ti23), (24, ti24), (26, ti26), (28, ti28), (29, ti29), (31, ti31), (33, ti33), (35, ti35), (37, ti37), (39, ti39), (40, ti40), (42, ti42), (44, ti44), (49, ti49), (51, ti51), (58, ti58), (67, ti67), (69, ti69), (71, ti71), (76, ti76), (80, ti80), (84, ti84), (87, ti87), (90, ti90), (95, ti95), (100, ti100), (103, ti103), (108, ti108), (109, ti109), (111, ti111), (112, ti112), (113, ti113), (124, ti124), (128, ti128), (129, ti129)]
theorem tabL_ok : AllOk Tryd.prog tabL := ⟨ti1_ok, ti2_ok, ti3_ok, ti4_ok, ti5_ok, ti6_ok, ti7_ok, ti9_ok, ti10_ok, ti15_ok, ti22_ok, ti23_ok, ti24_ok, ti26_ok, ti28_ok, ti29_ok, ti31_ok, ti33_ok, ti35_ok, ti37_ok, ti39_ok, ti40_ok, ti42_ok, ti44_ok, ti49_ok, ti51_ok, ti58_ok, ti67_ok, ti69_ok, ti71_ok, ti76_ok, ti80_ok, ti84_ok, ti87_ok, ti90_ok, ti95_ok, ti100_ok, ti103_ok, ti108_ok, ti109_ok, ti111_ok, ti112_ok, ti113_ok, ti124_ok, ti128_ok, ti129_ok, trivial⟩
def T : Tab := fun t => (tabL.lookup t).getD {}
theorem T_ok : TabOk Tryd.prog T := tabOk_of tabL_ok
theorem T1 : T 1 = ti1 := rfl
theorem T2 : T 2 = ti2 := rfl
theorem T3 : T 3 = ti3 := rfl
theorem T4 : T 4 = ti4 := rfl
theorem T5 : T 5 = ti5 := rfl
theorem T6 : T 6 = ti6 := rfl
theorem T7 : T 7 = ti7 := rfl
theorem T9 : T 9 = ti9 := rfl
theorem T10 : T 10 = ti10 := rfl
theorem T15 : T 15 = ti15 := rfl
theorem T22 : T 22 = ti22 := rfl
theorem T23 : T 23 = ti23 := rfl
theorem T24 : T 24 = ti24 := rfl
theorem T26 : T 26 = ti26 := rfl
theorem T28 : T 28 = ti28 := rfl
theorem T29 : T 29 = ti29 := rfl
theorem T31 : T 31 = ti31 := rfl
theorem T33 : T 33 = ti33 := rfl
theorem T35 : T 35 = ti35 := rfl
theorem T37 : T 37 = ti37 := rfl
theorem T39 : T 39 = ti39 := rfl
theorem T40 : T 40 = ti40 := rfl
theorem T42 : T 42 = ti42 := rfl
theorem T44 : T 44 = ti44 := rfl
theorem T49 : T 49 = ti49 := rfl
theorem T51 : T 51 = ti51 := rfl
theorem T58 : T 58 = ti58 := rfl
theorem T67 : T 67 = ti67 := rfl
theorem T69 : T 69 = ti69 := rfl
theorem T71 : T 71 = ti71 := rfl
theorem T76 : T 76 = ti76 := rfl
theorem T80 : T 80 = ti80 := rfl
theorem T84 : T 84 = ti84 := rfl
theorem T87 : T 87 = ti87 := rfl
theorem T90 : T 90 = ti90 := rfl
theorem T95 : T 95 = ti95 := rfl
theorem T100 : T 100 = ti100 := rfl
theorem T103 : T 103 = ti103 := rfl
theorem T108 : T 108 = ti108 := rfl
theorem T109 : T 109 = ti109 := rfl
theorem T111 : T 111 = ti111 := rfl
theorem T112 : T 112 = ti112 := rfl
theorem T113 : T 113 = ti113 := rfl
theorem T124 : T 124 = ti124 := rfl
theorem T128 : T 128 = ti128 := rfl
theorem T129 : T 129 = ti129 := rfl
end Go.Proofs.YtopigomfhggkoaaDoor.A
