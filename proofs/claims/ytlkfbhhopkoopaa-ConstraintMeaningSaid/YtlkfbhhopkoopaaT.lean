/- The types of the program: what is known of each. (Written by tab.py.) -/
import Derived.Test.YtlkfbhhopkoopaaProg
import Derived.Test.YtlkfbhhopkoopaaC7
set_option linter.unusedVariables false
set_option linter.unusedSimpArgs false
namespace Go.Proofs.Ytlkfbhhopkoopaa.A
open Go.RowKit

def AllOk (P : Program) : List (Nat × TI) → Prop
  | [] => True
  | p :: l => TI.ok P p.1 p.2 ∧ AllOk P l
theorem tabOk_of {P : Program} : ∀ {l : List (Nat × TI)}, AllOk P l → TabOk P (fun t => (l.lookup t).getD {})
  | [], _, t, h => by simp [List.lookup] at h
  | (k, i) :: l, hl, t, h => by
    simp only [List.lookup] at h ⊢
    split
    · rename_i hk
      have := (beq_iff_eq.1 hk)
      subst this
      exact hl.1
    · rename_i hk
      rw [hk] at h
      exact tabOk_of hl.2 t h
theorem TI.ok_mk {P : Program} {t : Nat} {i : TI} {d : TypeDesc} (h1 : (P.info? t).map (fun i => (i.size, i.bytes, i.zero.map fun z => z.cells.toList)) = some (i.size, i.bytes, some i.zero)) (h5 : (match d with | .struct _ | .array _ _ => true | _ => false) = i.agg) (h2 : P.underlying t = some d)
    (h3 : i.zero.all (·.oneCell') = true) (h4 : i.zero.length = i.size)
    (k1 : i.kind = 1 → d = .slice i.elem) (k2 : i.kind = 2 → ∃ fs, d = .struct fs ∧ fs.toList.map (fun f => (f.offset, f.type)) = i.fields) (k3 : i.kind = 3 → d = .array i.alen i.elem) (k4 : i.kind = 4 → d = .string) (k5 : i.kind = 5 → d = .int i.ik) (k6 : i.kind = 6 → d = .bool) (k7 : i.kind = 7 → d = .pointer i.elem) (k8 : i.eqk = true → P.stoodInHeld t = false ∧ P.eqGuardType P.depth t = false ∧ ∀ fs, d = .struct fs → (fs.toList.all fun f => f.name != "_") = true) : TI.ok P t i := by
  obtain ⟨info, e, he⟩ := Option.map_eq_some_iff.1 h1
  simp only [Prod.mk.injEq] at he
  exact ⟨info, d, e, h2, he.1, he.2.1, he.2.2, h3, h4, h5, k1, k2, k3, k4, k5, k6, k7, k8⟩
def ti1 : TI := { known := true, agg := false, size := 1, bytes := 8, zero := [.nilFunc], kind := 8 }
theorem ti1_ok : TI.ok Try.prog 1 ti1 := TI.ok_mk (by kernel_rfl) rfl Try.underlying1 rfl rfl (by simp [ti1]) (by first | (intro _; exact ⟨_, rfl, rfl⟩) | simp [ti1]) (by simp [ti1]) (by simp [ti1]) (by simp [ti1]) (by simp [ti1]) (by simp [ti1]) (by simp [ti1])
def ti2 : TI := { known := true, agg := false, size := 1, bytes := 8, zero := [.int .i64 0], kind := 5, ik := .i64 }
theorem ti2_ok : TI.ok Try.prog 2 ti2 := TI.ok_mk (by kernel_rfl) rfl Try.underlying2 rfl rfl (by simp [ti2]) (by first | (intro _; exact ⟨_, rfl, rfl⟩) | simp [ti2]) (by simp [ti2]) (by simp [ti2]) (by simp [ti2]) (by simp [ti2]) (by simp [ti2]) (by simp [ti2])
def ti3 : TI := { known := true, agg := false, size := 1, bytes := 8, zero := [.int .i64 0], kind := 5, ik := .i64 }
theorem ti3_ok : TI.ok Try.prog 3 ti3 := TI.ok_mk (by kernel_rfl) rfl Try.underlying3 rfl rfl (by simp [ti3]) (by first | (intro _; exact ⟨_, rfl, rfl⟩) | simp [ti3]) (by simp [ti3]) (by simp [ti3]) (by simp [ti3]) (by simp [ti3]) (by simp [ti3]) (by simp [ti3])
def ti4 : TI := { known := true, agg := false, size := 1, bytes := 1, zero := [.bool false], kind := 6 }
theorem ti4_ok : TI.ok Try.prog 4 ti4 := TI.ok_mk (by kernel_rfl) rfl Try.underlying4 rfl rfl (by simp [ti4]) (by first | (intro _; exact ⟨_, rfl, rfl⟩) | simp [ti4]) (by simp [ti4]) (by simp [ti4]) (by simp [ti4]) (by simp [ti4]) (by simp [ti4]) (by simp [ti4])
def ti5 : TI := { known := true, agg := false, size := 1, bytes := 1, zero := [.int .u8 0], kind := 5, ik := .u8 }
theorem ti5_ok : TI.ok Try.prog 5 ti5 := TI.ok_mk (by kernel_rfl) rfl Try.underlying5 rfl rfl (by simp [ti5]) (by first | (intro _; exact ⟨_, rfl, rfl⟩) | simp [ti5]) (by simp [ti5]) (by simp [ti5]) (by simp [ti5]) (by simp [ti5]) (by simp [ti5]) (by simp [ti5])
def ti9 : TI := { known := true, agg := false, size := 1, bytes := 16, zero := [.string ⟨#[]⟩], kind := 4 }
theorem ti9_ok : TI.ok Try.prog 9 ti9 := TI.ok_mk (by kernel_rfl) rfl Try.underlying9 rfl rfl (by simp [ti9]) (by first | (intro _; exact ⟨_, rfl, rfl⟩) | simp [ti9]) (by simp [ti9]) (by simp [ti9]) (by simp [ti9]) (by simp [ti9]) (by simp [ti9]) (by simp [ti9])
def ti15 : TI := { known := true, agg := false, size := 1, bytes := 8, zero := [.pointer none], kind := 7, elem := 160 }
theorem ti15_ok : TI.ok Try.prog 15 ti15 := TI.ok_mk (by kernel_rfl) rfl Try.underlying15 rfl rfl (by simp [ti15]) (by first | (intro _; exact ⟨_, rfl, rfl⟩) | simp [ti15]) (by simp [ti15]) (by simp [ti15]) (by simp [ti15]) (by simp [ti15]) (by simp [ti15]) (by simp [ti15])
def ti22 : TI := { known := true, agg := false, size := 1, bytes := 24, zero := [.slice none 0 0], kind := 1, elem := 5 }
theorem ti22_ok : TI.ok Try.prog 22 ti22 := TI.ok_mk (by kernel_rfl) rfl Try.underlying22 rfl rfl (by simp [ti22]) (by first | (intro _; exact ⟨_, rfl, rfl⟩) | simp [ti22]) (by simp [ti22]) (by simp [ti22]) (by simp [ti22]) (by simp [ti22]) (by simp [ti22]) (by simp [ti22])
def ti24 : TI := { known := true, agg := true, size := 1, bytes := 24, zero := [.slice none 0 0], kind := 2, fields := [(0, 22)] }
theorem ti24_ok : TI.ok Try.prog 24 ti24 := TI.ok_mk (by kernel_rfl) rfl Try.underlying24 rfl rfl (by simp [ti24]) (by first | (intro _; exact ⟨_, rfl, rfl⟩) | simp [ti24]) (by simp [ti24]) (by simp [ti24]) (by simp [ti24]) (by simp [ti24]) (by simp [ti24]) (by simp [ti24])
def ti25 : TI := { known := true, agg := true, size := 2, bytes := 48, zero := [.slice none 0 0, .slice none 0 0], kind := 3, alen := 2, elem := 22 }
theorem ti25_ok : TI.ok Try.prog 25 ti25 := TI.ok_mk (by kernel_rfl) rfl Try.underlying25 rfl rfl (by simp [ti25]) (by first | (intro _; exact ⟨_, rfl, rfl⟩) | simp [ti25]) (by simp [ti25]) (by simp [ti25]) (by simp [ti25]) (by simp [ti25]) (by simp [ti25]) (by simp [ti25])
def ti26 : TI := { known := true, agg := false, size := 1, bytes := 24, zero := [.slice none 0 0], kind := 1, elem := 3 }
theorem ti26_ok : TI.ok Try.prog 26 ti26 := TI.ok_mk (by kernel_rfl) rfl Try.underlying26 rfl rfl (by simp [ti26]) (by first | (intro _; exact ⟨_, rfl, rfl⟩) | simp [ti26]) (by simp [ti26]) (by simp [ti26]) (by simp [ti26]) (by simp [ti26]) (by simp [ti26]) (by simp [ti26])
def ti28 : TI := { known := true, agg := false, size := 1, bytes := 24, zero := [.slice none 0 0], kind := 1, elem := 60 }
theorem ti28_ok : TI.ok Try.prog 28 ti28 := TI.ok_mk (by kernel_rfl) rfl Try.underlying28 rfl rfl (by simp [ti28]) (by first | (intro _; exact ⟨_, rfl, rfl⟩) | simp [ti28]) (by simp [ti28]) (by simp [ti28]) (by simp [ti28]) (by simp [ti28]) (by simp [ti28]) (by simp [ti28])
def ti29 : TI := { known := true, agg := false, size := 1, bytes := 24, zero := [.slice none 0 0], kind := 1, elem := 68 }
theorem ti29_ok : TI.ok Try.prog 29 ti29 := TI.ok_mk (by kernel_rfl) rfl Try.underlying29 rfl rfl (by simp [ti29]) (by first | (intro _; exact ⟨_, rfl, rfl⟩) | simp [ti29]) (by simp [ti29]) (by simp [ti29]) (by simp [ti29]) (by simp [ti29]) (by simp [ti29]) (by simp [ti29])
def ti30 : TI := { known := true, agg := false, size := 1, bytes := 24, zero := [.slice none 0 0], kind := 1, elem := 76 }
theorem ti30_ok : TI.ok Try.prog 30 ti30 := TI.ok_mk (by kernel_rfl) rfl Try.underlying30 rfl rfl (by simp [ti30]) (by first | (intro _; exact ⟨_, rfl, rfl⟩) | simp [ti30]) (by simp [ti30]) (by simp [ti30]) (by simp [ti30]) (by simp [ti30]) (by simp [ti30]) (by simp [ti30])
def ti32 : TI := { known := true, agg := true, size := 3, bytes := 72, zero := [.slice none 0 0, .slice none 0 0, .slice none 0 0], kind := 2, fields := [(0, 28), (1, 29), (2, 30)] }
theorem ti32_ok : TI.ok Try.prog 32 ti32 := TI.ok_mk (by kernel_rfl) rfl Try.underlying32 rfl rfl (by simp [ti32]) (by first | (intro _; exact ⟨_, rfl, rfl⟩) | simp [ti32]) (by simp [ti32]) (by simp [ti32]) (by simp [ti32]) (by simp [ti32]) (by simp [ti32]) (by simp [ti32])
def ti34 : TI := { known := true, agg := false, size := 1, bytes := 24, zero := [.slice none 0 0], kind := 1, elem := 51 }
theorem ti34_ok : TI.ok Try.prog 34 ti34 := TI.ok_mk (by kernel_rfl) rfl Try.underlying34 rfl rfl (by simp [ti34]) (by first | (intro _; exact ⟨_, rfl, rfl⟩) | simp [ti34]) (by simp [ti34]) (by simp [ti34]) (by simp [ti34]) (by simp [ti34]) (by simp [ti34]) (by simp [ti34])
def ti36 : TI := { known := true, agg := true, size := 1, bytes := 24, zero := [.slice none 0 0], kind := 2, fields := [(0, 34)] }
theorem ti36_ok : TI.ok Try.prog 36 ti36 := TI.ok_mk (by kernel_rfl) rfl Try.underlying36 rfl rfl (by simp [ti36]) (by first | (intro _; exact ⟨_, rfl, rfl⟩) | simp [ti36]) (by simp [ti36]) (by simp [ti36]) (by simp [ti36]) (by simp [ti36]) (by simp [ti36]) (by simp [ti36])
def ti39 : TI := { known := true, agg := false, size := 1, bytes := 24, zero := [.slice none 0 0], kind := 1, elem := 36 }
theorem ti39_ok : TI.ok Try.prog 39 ti39 := TI.ok_mk (by kernel_rfl) rfl Try.underlying39 rfl rfl (by simp [ti39]) (by first | (intro _; exact ⟨_, rfl, rfl⟩) | simp [ti39]) (by simp [ti39]) (by simp [ti39]) (by simp [ti39]) (by simp [ti39]) (by simp [ti39]) (by simp [ti39])
def ti42 : TI := { known := true, agg := false, size := 1, bytes := 24, zero := [.slice none 0 0], kind := 1, elem := 83 }
theorem ti42_ok : TI.ok Try.prog 42 ti42 := TI.ok_mk (by kernel_rfl) rfl Try.underlying42 rfl rfl (by simp [ti42]) (by first | (intro _; exact ⟨_, rfl, rfl⟩) | simp [ti42]) (by simp [ti42]) (by simp [ti42]) (by simp [ti42]) (by simp [ti42]) (by simp [ti42]) (by simp [ti42])
def ti44 : TI := { known := true, agg := false, size := 1, bytes := 24, zero := [.slice none 0 0], kind := 1, elem := 97 }
theorem ti44_ok : TI.ok Try.prog 44 ti44 := TI.ok_mk (by kernel_rfl) rfl Try.underlying44 rfl rfl (by simp [ti44]) (by first | (intro _; exact ⟨_, rfl, rfl⟩) | simp [ti44]) (by simp [ti44]) (by simp [ti44]) (by simp [ti44]) (by simp [ti44]) (by simp [ti44]) (by simp [ti44])
def ti47 : TI := { known := true, agg := false, size := 1, bytes := 8, zero := [.int .i64 0], kind := 5, ik := .i64 }
theorem ti47_ok : TI.ok Try.prog 47 ti47 := TI.ok_mk (by kernel_rfl) rfl Try.underlying47 rfl rfl (by simp [ti47]) (by first | (intro _; exact ⟨_, rfl, rfl⟩) | simp [ti47]) (by simp [ti47]) (by simp [ti47]) (by simp [ti47]) (by simp [ti47]) (by simp [ti47]) (by simp [ti47])
def ti49 : TI := { known := true, agg := true, size := 2, bytes := 16, zero := [.int .i64 0, .int .i64 0], kind := 2, fields := [(0, 3), (1, 47)], eqk := true }
theorem ti49_ok : TI.ok Try.prog 49 ti49 := TI.ok_mk (by kernel_rfl) rfl Try.underlying49 rfl rfl (by simp [ti49]) (by first | (intro _; exact ⟨_, rfl, rfl⟩) | simp [ti49]) (by simp [ti49]) (by simp [ti49]) (by simp [ti49]) (by simp [ti49]) (by simp [ti49]) (fun _ => ⟨by kernel_rfl, by kernel_rfl, fun fs h => by cases h; rfl⟩)
def ti51 : TI := { known := true, agg := false, size := 1, bytes := 24, zero := [.slice none 0 0], kind := 1, elem := 57 }
theorem ti51_ok : TI.ok Try.prog 51 ti51 := TI.ok_mk (by kernel_rfl) rfl Try.underlying51 rfl rfl (by simp [ti51]) (by first | (intro _; exact ⟨_, rfl, rfl⟩) | simp [ti51]) (by simp [ti51]) (by simp [ti51]) (by simp [ti51]) (by simp [ti51]) (by simp [ti51]) (by simp [ti51])
def ti52 : TI := { known := true, agg := false, size := 1, bytes := 24, zero := [.slice none 0 0], kind := 1, elem := 70 }
theorem ti52_ok : TI.ok Try.prog 52 ti52 := TI.ok_mk (by kernel_rfl) rfl Try.underlying52 rfl rfl (by simp [ti52]) (by first | (intro _; exact ⟨_, rfl, rfl⟩) | simp [ti52]) (by simp [ti52]) (by simp [ti52]) (by simp [ti52]) (by simp [ti52]) (by simp [ti52]) (by simp [ti52])
def ti54 : TI := { known := true, agg := false, size := 1, bytes := 24, zero := [.slice none 0 0], kind := 1, elem := 74 }
theorem ti54_ok : TI.ok Try.prog 54 ti54 := TI.ok_mk (by kernel_rfl) rfl Try.underlying54 rfl rfl (by simp [ti54]) (by first | (intro _; exact ⟨_, rfl, rfl⟩) | simp [ti54]) (by simp [ti54]) (by simp [ti54]) (by simp [ti54]) (by simp [ti54]) (by simp [ti54]) (by simp [ti54])
def ti55 : TI := { known := true, agg := false, size := 1, bytes := 24, zero := [.slice none 0 0], kind := 1, elem := 72 }
theorem ti55_ok : TI.ok Try.prog 55 ti55 := TI.ok_mk (by kernel_rfl) rfl Try.underlying55 rfl rfl (by simp [ti55]) (by first | (intro _; exact ⟨_, rfl, rfl⟩) | simp [ti55]) (by simp [ti55]) (by simp [ti55]) (by simp [ti55]) (by simp [ti55]) (by simp [ti55]) (by simp [ti55])
def ti57 : TI := { known := true, agg := true, size := 3, bytes := 72, zero := [.slice none 0 0, .slice none 0 0, .slice none 0 0], kind := 2, fields := [(0, 54), (1, 26), (2, 55)] }
theorem ti57_ok : TI.ok Try.prog 57 ti57 := TI.ok_mk (by kernel_rfl) rfl Try.underlying57 rfl rfl (by simp [ti57]) (by first | (intro _; exact ⟨_, rfl, rfl⟩) | simp [ti57]) (by simp [ti57]) (by simp [ti57]) (by simp [ti57]) (by simp [ti57]) (by simp [ti57]) (by simp [ti57])
def ti58 : TI := { known := true, agg := false, size := 1, bytes := 24, zero := [.slice none 0 0], kind := 1, elem := 94 }
theorem ti58_ok : TI.ok Try.prog 58 ti58 := TI.ok_mk (by kernel_rfl) rfl Try.underlying58 rfl rfl (by simp [ti58]) (by first | (intro _; exact ⟨_, rfl, rfl⟩) | simp [ti58]) (by simp [ti58]) (by simp [ti58]) (by simp [ti58]) (by simp [ti58]) (by simp [ti58]) (by simp [ti58])
def ti60 : TI := { known := true, agg := true, size := 5, bytes := 64, zero := [.string ⟨#[]⟩, .slice none 0 0, .int .i64 0, .int .i64 0, .bool false], kind := 2, fields := [(0, 9), (1, 58), (2, 3), (3, 3), (4, 4)] }
theorem ti60_ok : TI.ok Try.prog 60 ti60 := TI.ok_mk (by kernel_rfl) rfl Try.underlying60 rfl rfl (by simp [ti60]) (by first | (intro _; exact ⟨_, rfl, rfl⟩) | simp [ti60]) (by simp [ti60]) (by simp [ti60]) (by simp [ti60]) (by simp [ti60]) (by simp [ti60]) (by simp [ti60])
def ti64 : TI := { known := true, agg := true, size := 2, bytes := 32, zero := [.int .i64 0, .slice none 0 0], kind := 2, fields := [(0, 3), (1, 52)] }
theorem ti64_ok : TI.ok Try.prog 64 ti64 := TI.ok_mk (by kernel_rfl) rfl Try.underlying64 rfl rfl (by simp [ti64]) (by first | (intro _; exact ⟨_, rfl, rfl⟩) | simp [ti64]) (by simp [ti64]) (by simp [ti64]) (by simp [ti64]) (by simp [ti64]) (by simp [ti64]) (by simp [ti64])
def ti68 : TI := { known := true, agg := true, size := 3, bytes := 24, zero := [.int .i64 0, .int .i64 0, .int .i64 0], kind := 2, fields := [(0, 3), (1, 3), (2, 3)], eqk := true }
theorem ti68_ok : TI.ok Try.prog 68 ti68 := TI.ok_mk (by kernel_rfl) rfl Try.underlying68 rfl rfl (by simp [ti68]) (by first | (intro _; exact ⟨_, rfl, rfl⟩) | simp [ti68]) (by simp [ti68]) (by simp [ti68]) (by simp [ti68]) (by simp [ti68]) (by simp [ti68]) (fun _ => ⟨by kernel_rfl, by kernel_rfl, fun fs h => by cases h; rfl⟩)
def ti70 : TI := { known := true, agg := true, size := 3, bytes := 32, zero := [.int .i64 0, .int .i64 0, .string ⟨#[]⟩], kind := 2, fields := [(0, 3), (1, 3), (2, 9)], eqk := true }
theorem ti70_ok : TI.ok Try.prog 70 ti70 := TI.ok_mk (by kernel_rfl) rfl Try.underlying70 rfl rfl (by simp [ti70]) (by first | (intro _; exact ⟨_, rfl, rfl⟩) | simp [ti70]) (by simp [ti70]) (by simp [ti70]) (by simp [ti70]) (by simp [ti70]) (by simp [ti70]) (fun _ => ⟨by kernel_rfl, by kernel_rfl, fun fs h => by cases h; rfl⟩)
def ti72 : TI := { known := true, agg := true, size := 2, bytes := 16, zero := [.int .i64 0, .int .i64 0], kind := 2, fields := [(0, 3), (1, 3)], eqk := true }
theorem ti72_ok : TI.ok Try.prog 72 ti72 := TI.ok_mk (by kernel_rfl) rfl Try.underlying72 rfl rfl (by simp [ti72]) (by first | (intro _; exact ⟨_, rfl, rfl⟩) | simp [ti72]) (by simp [ti72]) (by simp [ti72]) (by simp [ti72]) (by simp [ti72]) (by simp [ti72]) (fun _ => ⟨by kernel_rfl, by kernel_rfl, fun fs h => by cases h; rfl⟩)
def ti74 : TI := { known := true, agg := true, size := 5, bytes := 48, zero := [.int .i64 0, .int .i64 0, .string ⟨#[]⟩, .int .i64 0, .int .i64 0], kind := 2, fields := [(0, 70), (3, 72)], eqk := true }
theorem ti74_ok : TI.ok Try.prog 74 ti74 := TI.ok_mk (by kernel_rfl) rfl Try.underlying74 rfl rfl (by simp [ti74]) (by first | (intro _; exact ⟨_, rfl, rfl⟩) | simp [ti74]) (by simp [ti74]) (by simp [ti74]) (by simp [ti74]) (by simp [ti74]) (by simp [ti74]) (fun _ => ⟨by kernel_rfl, by kernel_rfl, fun fs h => by cases h; rfl⟩)
def ti76 : TI := { known := true, agg := true, size := 4, bytes := 32, zero := [.int .i64 0, .int .i64 0, .int .i64 0, .int .i64 0], kind := 2, fields := [(0, 3), (1, 3), (2, 3), (3, 3)], eqk := true }
theorem ti76_ok : TI.ok Try.prog 76 ti76 := TI.ok_mk (by kernel_rfl) rfl Try.underlying76 rfl rfl (by simp [ti76]) (by first | (intro _; exact ⟨_, rfl, rfl⟩) | simp [ti76]) (by simp [ti76]) (by simp [ti76]) (by simp [ti76]) (by simp [ti76]) (by simp [ti76]) (fun _ => ⟨by kernel_rfl, by kernel_rfl, fun fs h => by cases h; rfl⟩)
def ti81 : TI := { known := true, agg := true, size := 2, bytes := 2, zero := [.int .u8 0, .int .u8 0], kind := 3, alen := 2, elem := 5 }
theorem ti81_ok : TI.ok Try.prog 81 ti81 := TI.ok_mk (by kernel_rfl) rfl Try.underlying81 rfl rfl (by simp [ti81]) (by first | (intro _; exact ⟨_, rfl, rfl⟩) | simp [ti81]) (by simp [ti81]) (by simp [ti81]) (by simp [ti81]) (by simp [ti81]) (by simp [ti81]) (by simp [ti81])
def ti83 : TI := { known := true, agg := true, size := 3, bytes := 24, zero := [.int .i64 0, .int .i64 0, .int .i64 0], kind := 2, fields := [(0, 3), (1, 3), (2, 3)], eqk := true }
theorem ti83_ok : TI.ok Try.prog 83 ti83 := TI.ok_mk (by kernel_rfl) rfl Try.underlying83 rfl rfl (by simp [ti83]) (by first | (intro _; exact ⟨_, rfl, rfl⟩) | simp [ti83]) (by simp [ti83]) (by simp [ti83]) (by simp [ti83]) (by simp [ti83]) (by simp [ti83]) (fun _ => ⟨by kernel_rfl, by kernel_rfl, fun fs h => by cases h; rfl⟩)
def ti87 : TI := { known := true, agg := true, size := 3, bytes := 3, zero := [.int .u8 0, .int .u8 0, .int .u8 0], kind := 3, alen := 3, elem := 5 }
theorem ti87_ok : TI.ok Try.prog 87 ti87 := TI.ok_mk (by kernel_rfl) rfl Try.underlying87 rfl rfl (by simp [ti87]) (by first | (intro _; exact ⟨_, rfl, rfl⟩) | simp [ti87]) (by simp [ti87]) (by simp [ti87]) (by simp [ti87]) (by simp [ti87]) (by simp [ti87]) (by simp [ti87])
def ti90 : TI := { known := true, agg := true, size := 3, bytes := 24, zero := [.int .i64 0, .int .i64 0, .bool false], kind := 2, fields := [(0, 3), (1, 3), (2, 4)], eqk := true }
theorem ti90_ok : TI.ok Try.prog 90 ti90 := TI.ok_mk (by kernel_rfl) rfl Try.underlying90 rfl rfl (by simp [ti90]) (by first | (intro _; exact ⟨_, rfl, rfl⟩) | simp [ti90]) (by simp [ti90]) (by simp [ti90]) (by simp [ti90]) (by simp [ti90]) (by simp [ti90]) (fun _ => ⟨by kernel_rfl, by kernel_rfl, fun fs h => by cases h; rfl⟩)
def ti94 : TI := { known := true, agg := true, size := 8, bytes := 80, zero := [.string ⟨#[]⟩, .int .i64 0, .int .i64 0, .bool false, .int .i64 0, .int .i64 0, .int .i64 0, .string ⟨#[]⟩], kind := 2, fields := [(0, 9), (1, 90), (4, 3), (5, 70)], eqk := true }
theorem ti94_ok : TI.ok Try.prog 94 ti94 := TI.ok_mk (by kernel_rfl) rfl Try.underlying94 rfl rfl (by simp [ti94]) (by first | (intro _; exact ⟨_, rfl, rfl⟩) | simp [ti94]) (by simp [ti94]) (by simp [ti94]) (by simp [ti94]) (by simp [ti94]) (by simp [ti94]) (fun _ => ⟨by kernel_rfl, by kernel_rfl, fun fs h => by cases h; rfl⟩)
def ti97 : TI := { known := true, agg := true, size := 3, bytes := 24, zero := [.int .i64 0, .int .i64 0, .int .i64 0], kind := 2, fields := [(0, 3), (1, 3), (2, 3)], eqk := true }
theorem ti97_ok : TI.ok Try.prog 97 ti97 := TI.ok_mk (by kernel_rfl) rfl Try.underlying97 rfl rfl (by simp [ti97]) (by first | (intro _; exact ⟨_, rfl, rfl⟩) | simp [ti97]) (by simp [ti97]) (by simp [ti97]) (by simp [ti97]) (by simp [ti97]) (by simp [ti97]) (fun _ => ⟨by kernel_rfl, by kernel_rfl, fun fs h => by cases h; rfl⟩)
def ti102 : TI := { known := true, agg := true, size := 2, bytes := 32, zero := [.int .i64 0, .slice none 0 0], kind := 2, fields := [(0, 3), (1, 22)] }
theorem ti102_ok : TI.ok Try.prog 102 ti102 := TI.ok_mk (by kernel_rfl) rfl Try.underlying102 rfl rfl (by simp [ti102]) (by first | (intro _; exact ⟨_, rfl, rfl⟩) | simp [ti102]) (by simp [ti102]) (by simp [ti102]) (by simp [ti102]) (by simp [ti102]) (by simp [ti102]) (by simp [ti102])
def ti113 : TI := { known := true, agg := false, size := 1, bytes := 8, zero := [.nilFunc], kind := 8 }
theorem ti113_ok : TI.ok Try.prog 113 ti113 := TI.ok_mk (by kernel_rfl) rfl Try.underlying113 rfl rfl (by simp [ti113]) (by first | (intro _; exact ⟨_, rfl, rfl⟩) | simp [ti113]) (by simp [ti113]) (by simp [ti113]) (by simp [ti113]) (by simp [ti113]) (by simp [ti113]) (by simp [ti113])
def ti116 : TI := { known := true, agg := false, size := 1, bytes := 8, zero := [.nilFunc], kind := 8 }
theorem ti116_ok : TI.ok Try.prog 116 ti116 := TI.ok_mk (by kernel_rfl) rfl Try.underlying116 rfl rfl (by simp [ti116]) (by first | (intro _; exact ⟨_, rfl, rfl⟩) | simp [ti116]) (by simp [ti116]) (by simp [ti116]) (by simp [ti116]) (by simp [ti116]) (by simp [ti116]) (by simp [ti116])
def ti119 : TI := { known := true, agg := false, size := 1, bytes := 8, zero := [.nilFunc], kind := 8 }
theorem ti119_ok : TI.ok Try.prog 119 ti119 := TI.ok_mk (by kernel_rfl) rfl Try.underlying119 rfl rfl (by simp [ti119]) (by first | (intro _; exact ⟨_, rfl, rfl⟩) | simp [ti119]) (by simp [ti119]) (by simp [ti119]) (by simp [ti119]) (by simp [ti119]) (by simp [ti119]) (by simp [ti119])
def ti131 : TI := { known := true, agg := false, size := 1, bytes := 8, zero := [.nilFunc], kind := 8 }
theorem ti131_ok : TI.ok Try.prog 131 ti131 := TI.ok_mk (by kernel_rfl) rfl Try.underlying131 rfl rfl (by simp [ti131]) (by first | (intro _; exact ⟨_, rfl, rfl⟩) | simp [ti131]) (by simp [ti131]) (by simp [ti131]) (by simp [ti131]) (by simp [ti131]) (by simp [ti131]) (by simp [ti131])
def ti134 : TI := { known := true, agg := false, size := 1, bytes := 8, zero := [.nilFunc], kind := 8 }
theorem ti134_ok : TI.ok Try.prog 134 ti134 := TI.ok_mk (by kernel_rfl) rfl Try.underlying134 rfl rfl (by simp [ti134]) (by first | (intro _; exact ⟨_, rfl, rfl⟩) | simp [ti134]) (by simp [ti134]) (by simp [ti134]) (by simp [ti134]) (by simp [ti134]) (by simp [ti134]) (by simp [ti134])
def ti143 : TI := { known := true, agg := false, size := 1, bytes := 8, zero := [.int .u64 0], kind := 5, ik := .u64 }
theorem ti143_ok : TI.ok Try.prog 143 ti143 := TI.ok_mk (by kernel_rfl) rfl Try.underlying143 rfl rfl (by simp [ti143]) (by first | (intro _; exact ⟨_, rfl, rfl⟩) | simp [ti143]) (by simp [ti143]) (by simp [ti143]) (by simp [ti143]) (by simp [ti143]) (by simp [ti143]) (by simp [ti143])
def ti145 : TI := { known := true, agg := true, size := 2, bytes := 16, zero := [.int .u64 0, .int .u64 0], kind := 2, fields := [(0, 143), (1, 143)], eqk := true }
theorem ti145_ok : TI.ok Try.prog 145 ti145 := TI.ok_mk (by kernel_rfl) rfl Try.underlying145 rfl rfl (by simp [ti145]) (by first | (intro _; exact ⟨_, rfl, rfl⟩) | simp [ti145]) (by simp [ti145]) (by simp [ti145]) (by simp [ti145]) (by simp [ti145]) (by simp [ti145]) (fun _ => ⟨by kernel_rfl, by kernel_rfl, fun fs h => by cases h; rfl⟩)
def ti149 : TI := { known := true, agg := false, size := 1, bytes := 8, zero := [.nilFunc], kind := 8 }
theorem ti149_ok : TI.ok Try.prog 149 ti149 := TI.ok_mk (by kernel_rfl) rfl Try.underlying149 rfl rfl (by simp [ti149]) (by first | (intro _; exact ⟨_, rfl, rfl⟩) | simp [ti149]) (by simp [ti149]) (by simp [ti149]) (by simp [ti149]) (by simp [ti149]) (by simp [ti149]) (by simp [ti149])
def ti151 : TI := { known := true, agg := false, size := 1, bytes := 24, zero := [.slice none 0 0], kind := 1, elem := 9 }
theorem ti151_ok : TI.ok Try.prog 151 ti151 := TI.ok_mk (by kernel_rfl) rfl Try.underlying151 rfl rfl (by simp [ti151]) (by first | (intro _; exact ⟨_, rfl, rfl⟩) | simp [ti151]) (by simp [ti151]) (by simp [ti151]) (by simp [ti151]) (by simp [ti151]) (by simp [ti151]) (by simp [ti151])
def ti154 : TI := { known := true, agg := false, size := 1, bytes := 8, zero := [.int .u64 0], kind := 5, ik := .u64 }
theorem ti154_ok : TI.ok Try.prog 154 ti154 := TI.ok_mk (by kernel_rfl) rfl Try.underlying154 rfl rfl (by simp [ti154]) (by first | (intro _; exact ⟨_, rfl, rfl⟩) | simp [ti154]) (by simp [ti154]) (by simp [ti154]) (by simp [ti154]) (by simp [ti154]) (by simp [ti154]) (by simp [ti154])
def tabL : List (Nat × TI) := [(1, ti1), (2, ti2), (3, ti3), (4, ti4), (5, ti5), (9, ti9), (15, ti15), (22, ti22), (24, ti24), (25, ti25), (26, ti26), (28, ti28), (29, ti29), (30, ti30), (32, ti32), (34, ti34), (36, ti36), (39, ti39), (42, ti42), (44, ti44), (47, ti47), (49, ti49), (51, ti51), (52, ti52), (54, ti54), (55, ti55), (57, ti57), (58, ti58), (60, ti60), (64, ti64), (68, ti68), (70, ti70), (72, ti72), (74, ti74), (76, ti76), (81, ti81), (83, ti83), (87, ti87), (90, ti90), (94, ti94), (97, ti97), (102, ti102), (113, ti113), (116, ti116), (119, ti119), (131, ti131), (134, ti134), (143, ti143), (145, ti145), (149, ti149), (151, ti151), (154, ti154)]
theorem tabL_ok : AllOk Try.prog tabL := ⟨ti1_ok, ti2_ok, ti3_ok, ti4_ok, ti5_ok, ti9_ok, ti15_ok, ti22_ok, ti24_ok, ti25_ok, ti26_ok, ti28_ok, ti29_ok, ti30_ok, ti32_ok, ti34_ok, ti36_ok, ti39_ok, ti42_ok, ti44_ok, ti47_ok, ti49_ok, ti51_ok, ti52_ok, ti54_ok, ti55_ok, ti57_ok, ti58_ok, ti60_ok, ti64_ok, ti68_ok, ti70_ok, ti72_ok, ti74_ok, ti76_ok, ti81_ok, ti83_ok, ti87_ok, ti90_ok, ti94_ok, ti97_ok, ti102_ok, ti113_ok, ti116_ok, ti119_ok, ti131_ok, ti134_ok, ti143_ok, ti145_ok, ti149_ok, ti151_ok, ti154_ok, trivial⟩
def T : Tab := fun t => (tabL.lookup t).getD {}
theorem T_ok : TabOk Try.prog T := tabOk_of tabL_ok
theorem T1 : T 1 = ti1 := rfl
theorem T2 : T 2 = ti2 := rfl
theorem T3 : T 3 = ti3 := rfl
theorem T4 : T 4 = ti4 := rfl
theorem T5 : T 5 = ti5 := rfl
theorem T9 : T 9 = ti9 := rfl
theorem T15 : T 15 = ti15 := rfl
theorem T22 : T 22 = ti22 := rfl
theorem T24 : T 24 = ti24 := rfl
theorem T25 : T 25 = ti25 := rfl
theorem T26 : T 26 = ti26 := rfl
theorem T28 : T 28 = ti28 := rfl
theorem T29 : T 29 = ti29 := rfl
theorem T30 : T 30 = ti30 := rfl
theorem T32 : T 32 = ti32 := rfl
theorem T34 : T 34 = ti34 := rfl
theorem T36 : T 36 = ti36 := rfl
theorem T39 : T 39 = ti39 := rfl
theorem T42 : T 42 = ti42 := rfl
theorem T44 : T 44 = ti44 := rfl
theorem T47 : T 47 = ti47 := rfl
theorem T49 : T 49 = ti49 := rfl
theorem T51 : T 51 = ti51 := rfl
theorem T52 : T 52 = ti52 := rfl
theorem T54 : T 54 = ti54 := rfl
theorem T55 : T 55 = ti55 := rfl
theorem T57 : T 57 = ti57 := rfl
theorem T58 : T 58 = ti58 := rfl
theorem T60 : T 60 = ti60 := rfl
theorem T64 : T 64 = ti64 := rfl
theorem T68 : T 68 = ti68 := rfl
theorem T70 : T 70 = ti70 := rfl
theorem T72 : T 72 = ti72 := rfl
theorem T74 : T 74 = ti74 := rfl
theorem T76 : T 76 = ti76 := rfl
theorem T81 : T 81 = ti81 := rfl
theorem T83 : T 83 = ti83 := rfl
theorem T87 : T 87 = ti87 := rfl
theorem T90 : T 90 = ti90 := rfl
theorem T94 : T 94 = ti94 := rfl
theorem T97 : T 97 = ti97 := rfl
theorem T102 : T 102 = ti102 := rfl
theorem T113 : T 113 = ti113 := rfl
theorem T116 : T 116 = ti116 := rfl
theorem T119 : T 119 = ti119 := rfl
theorem T131 : T 131 = ti131 := rfl
theorem T134 : T 134 = ti134 := rfl
theorem T143 : T 143 = ti143 := rfl
theorem T145 : T 145 = ti145 := rfl
theorem T149 : T 149 = ti149 := rfl
theorem T151 : T 151 = ti151 := rfl
theorem T154 : T 154 = ti154 := rfl
end Go.Proofs.Ytlkfbhhopkoopaa.A
