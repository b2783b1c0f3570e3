/- The types of the program: what is known of each. (Written by tab.py.) -/
import Derived.Test.YtnppegglggcceaaProg
import Derived.Test.YtnppegglggcceaaC7
set_option linter.unusedVariables false
set_option linter.unusedSimpArgs false
namespace Go.Proofs.Ytnppegglggcceaa.A
open Go.RowKit

def AllOk (P : Program) : List (Nat × TI) → Prop
  | [] => True
  | p :: l => TI.ok P p.1 p.2 ∧ AllOk P l
theorem tabOk_of {P : Program} : ∀ {l : List (Nat × TI)}, AllOk P l → TabOk P (fun t => (l.lookup t).getD {})
  | [], _, t, h => by simp [List.lookup] at h
  | (k, i) :: l, hl, t, h => by
    simp only [List.lookup] at h ⊢
    split
    · rename_i hk
      have := (beq_iff_eq.1 hk)
      subst this
      exact hl.1
    · rename_i hk
      rw [hk] at h
      exact tabOk_of hl.2 t h
theorem TI.ok_mk {P : Program} {t : Nat} {i : TI} {d : TypeDesc} (h1 : (P.info? t).map (fun i => (i.size, i.bytes, i.zero.map fun z => z.cells.toList)) = some (i.size, i.bytes, some i.zero)) (h5 : (match d with | .struct _ | .array _ _ => true | _ => false) = i.agg) (h2 : P.underlying t = some d)
    (h3 : i.zero.all (·.oneCell') = true) (h4 : i.zero.length = i.size)
    (k1 : i.kind = 1 → d = .slice i.elem) (k2 : i.kind = 2 → ∃ fs, d = .struct fs ∧ fs.toList.map (fun f => (f.offset, f.type)) = i.fields) (k3 : i.kind = 3 → d = .array i.alen i.elem) (k4 : i.kind = 4 → d = .string) (k5 : i.kind = 5 → d = .int i.ik) (k6 : i.kind = 6 → d = .bool) (k7 : i.kind = 7 → d = .pointer i.elem) (k8 : i.eqk = true → P.stoodInHeld t = false ∧ P.eqGuardType P.depth t = false ∧ ∀ fs, d = .struct fs → (fs.toList.all fun f => f.name != "_") = true) : TI.ok P t i := by
  obtain ⟨info, e, he⟩ := Option.map_eq_some_iff.1 h1
  simp only [Prod.mk.injEq] at he
  exact ⟨info, d, e, h2, he.1, he.2.1, he.2.2, h3, h4, h5, k1, k2, k3, k4, k5, k6, k7, k8⟩
def ti1 : TI := { known := true, agg := false, size := 1, bytes := 8, zero := [.nilFunc], kind := 8 }
theorem ti1_ok : TI.ok Try.prog 1 ti1 := TI.ok_mk (by kernel_rfl) rfl Try.underlying1 rfl rfl (by simp [ti1]) (by first | (intro _; exact ⟨_, rfl, rfl⟩) | simp [ti1]) (by simp [ti1]) (by simp [ti1]) (by simp [ti1]) (by simp [ti1]) (by simp [ti1]) (by simp [ti1])
def ti2 : TI := { known := true, agg := false, size := 1, bytes := 8, zero := [.int .i64 0], kind := 5, ik := .i64 }
theorem ti2_ok : TI.ok Try.prog 2 ti2 := TI.ok_mk (by kernel_rfl) rfl Try.underlying2 rfl rfl (by simp [ti2]) (by first | (intro _; exact ⟨_, rfl, rfl⟩) | simp [ti2]) (by simp [ti2]) (by simp [ti2]) (by simp [ti2]) (by simp [ti2]) (by simp [ti2]) (by simp [ti2])
def ti3 : TI := { known := true, agg := false, size := 1, bytes := 8, zero := [.int .i64 0], kind := 5, ik := .i64 }
theorem ti3_ok : TI.ok Try.prog 3 ti3 := TI.ok_mk (by kernel_rfl) rfl Try.underlying3 rfl rfl (by simp [ti3]) (by first | (intro _; exact ⟨_, rfl, rfl⟩) | simp [ti3]) (by simp [ti3]) (by simp [ti3]) (by simp [ti3]) (by simp [ti3]) (by simp [ti3]) (by simp [ti3])
def ti4 : TI := { known := true, agg := false, size := 1, bytes := 1, zero := [.bool false], kind := 6 }
theorem ti4_ok : TI.ok Try.prog 4 ti4 := TI.ok_mk (by kernel_rfl) rfl Try.underlying4 rfl rfl (by simp [ti4]) (by first | (intro _; exact ⟨_, rfl, rfl⟩) | simp [ti4]) (by simp [ti4]) (by simp [ti4]) (by simp [ti4]) (by simp [ti4]) (by simp [ti4]) (by simp [ti4])
def ti5 : TI := { known := true, agg := false, size := 1, bytes := 1, zero := [.int .u8 0], kind := 5, ik := .u8 }
theorem ti5_ok : TI.ok Try.prog 5 ti5 := TI.ok_mk (by kernel_rfl) rfl Try.underlying5 rfl rfl (by simp [ti5]) (by first | (intro _; exact ⟨_, rfl, rfl⟩) | simp [ti5]) (by simp [ti5]) (by simp [ti5]) (by simp [ti5]) (by simp [ti5]) (by simp [ti5]) (by simp [ti5])
def ti6 : TI := { known := true, agg := false, size := 1, bytes := 1, zero := [.int .u8 0], kind := 5, ik := .u8 }
theorem ti6_ok : TI.ok Try.prog 6 ti6 := TI.ok_mk (by kernel_rfl) rfl Try.underlying6 rfl rfl (by simp [ti6]) (by first | (intro _; exact ⟨_, rfl, rfl⟩) | simp [ti6]) (by simp [ti6]) (by simp [ti6]) (by simp [ti6]) (by simp [ti6]) (by simp [ti6]) (by simp [ti6])
def ti7 : TI := { known := true, agg := true, size := 4, bytes := 24, zero := [.int .i64 0, .int .i64 0, .bool false, .int .u8 0], kind := 2, fields := [(0, 2), (1, 3), (2, 4), (3, 6)] }
theorem ti7_ok : TI.ok Try.prog 7 ti7 := TI.ok_mk (by kernel_rfl) rfl Try.underlying7 rfl rfl (by simp [ti7]) (by first | (intro _; exact ⟨_, rfl, rfl⟩) | simp [ti7]) (by simp [ti7]) (by simp [ti7]) (by simp [ti7]) (by simp [ti7]) (by simp [ti7]) (by simp [ti7])
def ti8 : TI := { known := true, agg := true, size := 4, bytes := 24, zero := [.int .i64 0, .int .i64 0, .bool false, .int .u8 0], kind := 2, fields := [(0, 2), (1, 3), (2, 4), (3, 6)] }
theorem ti8_ok : TI.ok Try.prog 8 ti8 := TI.ok_mk (by kernel_rfl) rfl Try.underlying8 rfl rfl (by simp [ti8]) (by first | (intro _; exact ⟨_, rfl, rfl⟩) | simp [ti8]) (by simp [ti8]) (by simp [ti8]) (by simp [ti8]) (by simp [ti8]) (by simp [ti8]) (by simp [ti8])
def ti9 : TI := { known := true, agg := false, size := 1, bytes := 16, zero := [.string ⟨#[]⟩], kind := 4 }
theorem ti9_ok : TI.ok Try.prog 9 ti9 := TI.ok_mk (by kernel_rfl) rfl Try.underlying9 rfl rfl (by simp [ti9]) (by first | (intro _; exact ⟨_, rfl, rfl⟩) | simp [ti9]) (by simp [ti9]) (by simp [ti9]) (by simp [ti9]) (by simp [ti9]) (by simp [ti9]) (by simp [ti9])
def ti12 : TI := { known := true, agg := false, size := 1, bytes := 8, zero := [.int .u64 0], kind := 5, ik := .u64 }
theorem ti12_ok : TI.ok Try.prog 12 ti12 := TI.ok_mk (by kernel_rfl) rfl Try.underlying12 rfl rfl (by simp [ti12]) (by first | (intro _; exact ⟨_, rfl, rfl⟩) | simp [ti12]) (by simp [ti12]) (by simp [ti12]) (by simp [ti12]) (by simp [ti12]) (by simp [ti12]) (by simp [ti12])
def ti21 : TI := { known := true, agg := false, size := 1, bytes := 4, zero := [.int .i32 0], kind := 5, ik := .i32 }
theorem ti21_ok : TI.ok Try.prog 21 ti21 := TI.ok_mk (by kernel_rfl) rfl Try.underlying21 rfl rfl (by simp [ti21]) (by first | (intro _; exact ⟨_, rfl, rfl⟩) | simp [ti21]) (by simp [ti21]) (by simp [ti21]) (by simp [ti21]) (by simp [ti21]) (by simp [ti21]) (by simp [ti21])
def ti22 : TI := { known := true, agg := false, size := 1, bytes := 2, zero := [.int .u16 0], kind := 5, ik := .u16 }
theorem ti22_ok : TI.ok Try.prog 22 ti22 := TI.ok_mk (by kernel_rfl) rfl Try.underlying22 rfl rfl (by simp [ti22]) (by first | (intro _; exact ⟨_, rfl, rfl⟩) | simp [ti22]) (by simp [ti22]) (by simp [ti22]) (by simp [ti22]) (by simp [ti22]) (by simp [ti22]) (by simp [ti22])
def ti25 : TI := { known := true, agg := false, size := 1, bytes := 24, zero := [.slice none 0 0], kind := 1, elem := 37 }
theorem ti25_ok : TI.ok Try.prog 25 ti25 := TI.ok_mk (by kernel_rfl) rfl Try.underlying25 rfl rfl (by simp [ti25]) (by first | (intro _; exact ⟨_, rfl, rfl⟩) | simp [ti25]) (by simp [ti25]) (by simp [ti25]) (by simp [ti25]) (by simp [ti25]) (by simp [ti25]) (by simp [ti25])
def ti26 : TI := { known := true, agg := false, size := 1, bytes := 8, zero := [.int .i64 0], kind := 5, ik := .i64 }
theorem ti26_ok : TI.ok Try.prog 26 ti26 := TI.ok_mk (by kernel_rfl) rfl Try.underlying26 rfl rfl (by simp [ti26]) (by first | (intro _; exact ⟨_, rfl, rfl⟩) | simp [ti26]) (by simp [ti26]) (by simp [ti26]) (by simp [ti26]) (by simp [ti26]) (by simp [ti26]) (by simp [ti26])
def ti28 : TI := { known := true, agg := true, size := 3, bytes := 40, zero := [.slice none 0 0, .int .i64 0, .int .i64 0], kind := 2, fields := [(0, 25), (1, 3), (2, 26)] }
theorem ti28_ok : TI.ok Try.prog 28 ti28 := TI.ok_mk (by kernel_rfl) rfl Try.underlying28 rfl rfl (by simp [ti28]) (by first | (intro _; exact ⟨_, rfl, rfl⟩) | simp [ti28]) (by simp [ti28]) (by simp [ti28]) (by simp [ti28]) (by simp [ti28]) (by simp [ti28]) (by simp [ti28])
def ti31 : TI := { known := true, agg := true, size := 2, bytes := 16, zero := [.int .i64 0, .int .i64 0], kind := 3, alen := 2, elem := 3, eqk := true }
theorem ti31_ok : TI.ok Try.prog 31 ti31 := TI.ok_mk (by kernel_rfl) rfl Try.underlying31 rfl rfl (by simp [ti31]) (by first | (intro _; exact ⟨_, rfl, rfl⟩) | simp [ti31]) (by simp [ti31]) (by simp [ti31]) (by simp [ti31]) (by simp [ti31]) (by simp [ti31]) (fun _ => ⟨by kernel_rfl, by kernel_rfl, fun fs h => by first | (cases h; done) | (cases h; rfl)⟩)
def ti35 : TI := { known := true, agg := true, size := 3, bytes := 32, zero := [.int .i64 0, .string ⟨#[]⟩, .int .i64 0], kind := 2, fields := [(0, 3), (1, 9), (2, 3)], eqk := true }
theorem ti35_ok : TI.ok Try.prog 35 ti35 := TI.ok_mk (by kernel_rfl) rfl Try.underlying35 rfl rfl (by simp [ti35]) (by first | (intro _; exact ⟨_, rfl, rfl⟩) | simp [ti35]) (by simp [ti35]) (by simp [ti35]) (by simp [ti35]) (by simp [ti35]) (by simp [ti35]) (fun _ => ⟨by kernel_rfl, by kernel_rfl, fun fs h => by first | (cases h; done) | (cases h; rfl)⟩)
def ti37 : TI := { known := true, agg := true, size := 3, bytes := 32, zero := [.int .i64 0, .string ⟨#[]⟩, .int .i64 0], kind := 2, fields := [(0, 3), (1, 9), (2, 3)], eqk := true }
theorem ti37_ok : TI.ok Try.prog 37 ti37 := TI.ok_mk (by kernel_rfl) rfl Try.underlying37 rfl rfl (by simp [ti37]) (by first | (intro _; exact ⟨_, rfl, rfl⟩) | simp [ti37]) (by simp [ti37]) (by simp [ti37]) (by simp [ti37]) (by simp [ti37]) (by simp [ti37]) (fun _ => ⟨by kernel_rfl, by kernel_rfl, fun fs h => by first | (cases h; done) | (cases h; rfl)⟩)
def ti41 : TI := { known := true, agg := false, size := 1, bytes := 24, zero := [.slice none 0 0], kind := 1, elem := 5 }
theorem ti41_ok : TI.ok Try.prog 41 ti41 := TI.ok_mk (by kernel_rfl) rfl Try.underlying41 rfl rfl (by simp [ti41]) (by first | (intro _; exact ⟨_, rfl, rfl⟩) | simp [ti41]) (by simp [ti41]) (by simp [ti41]) (by simp [ti41]) (by simp [ti41]) (by simp [ti41]) (by simp [ti41])
def ti52 : TI := { known := true, agg := false, size := 1, bytes := 24, zero := [.slice none 0 0], kind := 1, elem := 35 }
theorem ti52_ok : TI.ok Try.prog 52 ti52 := TI.ok_mk (by kernel_rfl) rfl Try.underlying52 rfl rfl (by simp [ti52]) (by first | (intro _; exact ⟨_, rfl, rfl⟩) | simp [ti52]) (by simp [ti52]) (by simp [ti52]) (by simp [ti52]) (by simp [ti52]) (by simp [ti52]) (by simp [ti52])
def ti58 : TI := { known := true, agg := false, size := 1, bytes := 8, zero := [.nilFunc], kind := 8 }
theorem ti58_ok : TI.ok Try.prog 58 ti58 := TI.ok_mk (by kernel_rfl) rfl Try.underlying58 rfl rfl (by simp [ti58]) (by first | (intro _; exact ⟨_, rfl, rfl⟩) | simp [ti58]) (by simp [ti58]) (by simp [ti58]) (by simp [ti58]) (by simp [ti58]) (by simp [ti58]) (by simp [ti58])
def ti62 : TI := { known := true, agg := false, size := 1, bytes := 8, zero := [.pointer none], kind := 7, elem := 64 }
theorem ti62_ok : TI.ok Try.prog 62 ti62 := TI.ok_mk (by kernel_rfl) rfl Try.underlying62 rfl rfl (by simp [ti62]) (by first | (intro _; exact ⟨_, rfl, rfl⟩) | simp [ti62]) (by simp [ti62]) (by simp [ti62]) (by simp [ti62]) (by simp [ti62]) (by simp [ti62]) (by simp [ti62])
def ti66 : TI := { known := true, agg := false, size := 1, bytes := 16, zero := [.nilIface], kind := 0 }
theorem ti66_ok : TI.ok Try.prog 66 ti66 := TI.ok_mk (by kernel_rfl) rfl Try.underlying66 rfl rfl (by simp [ti66]) (by first | (intro _; exact ⟨_, rfl, rfl⟩) | simp [ti66]) (by simp [ti66]) (by simp [ti66]) (by simp [ti66]) (by simp [ti66]) (by simp [ti66]) (by simp [ti66])
def ti73 : TI := { known := true, agg := true, size := 5, bytes := 48, zero := [.int .i64 0, .string ⟨#[]⟩, .int .i64 0, .int .i64 0, .bool false], kind := 2, fields := [(0, 37), (3, 3), (4, 4)], eqk := true }
theorem ti73_ok : TI.ok Try.prog 73 ti73 := TI.ok_mk (by kernel_rfl) rfl Try.underlying73 rfl rfl (by simp [ti73]) (by first | (intro _; exact ⟨_, rfl, rfl⟩) | simp [ti73]) (by simp [ti73]) (by simp [ti73]) (by simp [ti73]) (by simp [ti73]) (by simp [ti73]) (fun _ => ⟨by kernel_rfl, by kernel_rfl, fun fs h => by first | (cases h; done) | (cases h; rfl)⟩)
def ti76 : TI := { known := true, agg := false, size := 1, bytes := 24, zero := [.slice none 0 0], kind := 1, elem := 9 }
theorem ti76_ok : TI.ok Try.prog 76 ti76 := TI.ok_mk (by kernel_rfl) rfl Try.underlying76 rfl rfl (by simp [ti76]) (by first | (intro _; exact ⟨_, rfl, rfl⟩) | simp [ti76]) (by simp [ti76]) (by simp [ti76]) (by simp [ti76]) (by simp [ti76]) (by simp [ti76]) (by simp [ti76])
def ti77 : TI := { known := true, agg := false, size := 1, bytes := 8, zero := [.nilFunc], kind := 8 }
theorem ti77_ok : TI.ok Try.prog 77 ti77 := TI.ok_mk (by kernel_rfl) rfl Try.underlying77 rfl rfl (by simp [ti77]) (by first | (intro _; exact ⟨_, rfl, rfl⟩) | simp [ti77]) (by simp [ti77]) (by simp [ti77]) (by simp [ti77]) (by simp [ti77]) (by simp [ti77]) (by simp [ti77])
def ti79 : TI := { known := true, agg := false, size := 1, bytes := 16, zero := [.string ⟨#[]⟩], kind := 4 }
theorem ti79_ok : TI.ok Try.prog 79 ti79 := TI.ok_mk (by kernel_rfl) rfl Try.underlying79 rfl rfl (by simp [ti79]) (by first | (intro _; exact ⟨_, rfl, rfl⟩) | simp [ti79]) (by simp [ti79]) (by simp [ti79]) (by simp [ti79]) (by simp [ti79]) (by simp [ti79]) (by simp [ti79])
def ti80 : TI := { known := true, agg := true, size := 5, bytes := 40, zero := [.nilFunc, .nilFunc, .nilFunc, .nilFunc, .nilFunc], kind := 3, alen := 5, elem := 77 }
theorem ti80_ok : TI.ok Try.prog 80 ti80 := TI.ok_mk (by kernel_rfl) rfl Try.underlying80 rfl rfl (by simp [ti80]) (by first | (intro _; exact ⟨_, rfl, rfl⟩) | simp [ti80]) (by simp [ti80]) (by simp [ti80]) (by simp [ti80]) (by simp [ti80]) (by simp [ti80]) (by simp [ti80])
def ti87 : TI := { known := true, agg := false, size := 1, bytes := 8, zero := [.pointer none], kind := 7, elem := 5 }
theorem ti87_ok : TI.ok Try.prog 87 ti87 := TI.ok_mk (by kernel_rfl) rfl Try.underlying87 rfl rfl (by simp [ti87]) (by first | (intro _; exact ⟨_, rfl, rfl⟩) | simp [ti87]) (by simp [ti87]) (by simp [ti87]) (by simp [ti87]) (by simp [ti87]) (by simp [ti87]) (by simp [ti87])
def ti95 : TI := { known := true, agg := false, size := 1, bytes := 4, zero := [.int .u32 0], kind := 5, ik := .u32 }
theorem ti95_ok : TI.ok Try.prog 95 ti95 := TI.ok_mk (by kernel_rfl) rfl Try.underlying95 rfl rfl (by simp [ti95]) (by first | (intro _; exact ⟨_, rfl, rfl⟩) | simp [ti95]) (by simp [ti95]) (by simp [ti95]) (by simp [ti95]) (by simp [ti95]) (by simp [ti95]) (by simp [ti95])
def tabL : List (Nat × TI) := [(1, ti1), (2, ti2), (3, ti3), (4, ti4), (5, ti5), (6, ti6), (7, ti7), (8, ti8), (9, ti9), (12, ti12), (21, ti21), (22, ti22), (25, ti25), (26, ti26), (28, ti28), (31, ti31), (35, ti35), (37, ti37), (41, ti41), (52, ti52), (58, ti58), (62, ti62), (66, ti66), (73, ti73), (76, ti76), (77, ti77), (79, ti79), (80, ti80), (87, ti87), (95, ti95)]
theorem tabL_ok : AllOk Try.prog tabL := ⟨ti1_ok, ti2_ok, ti3_ok, ti4_ok, ti5_ok, ti6_ok, ti7_ok, ti8_ok, ti9_ok, ti12_ok, ti21_ok, ti22_ok, ti25_ok, ti26_ok, ti28_ok, ti31_ok, ti35_ok, ti37_ok, ti41_ok, ti52_ok, ti58_ok, ti62_ok, ti66_ok, ti73_ok, ti76_ok, ti77_ok, ti79_ok, ti80_ok, ti87_ok, ti95_ok, trivial⟩
def T : Tab := fun t => (tabL.lookup t).getD {}
theorem T_ok : TabOk Try.prog T := tabOk_of tabL_ok
theorem T1 : T 1 = ti1 := rfl
theorem T2 : T 2 = ti2 := rfl
theorem T3 : T 3 = ti3 := rfl
theorem T4 : T 4 = ti4 := rfl
theorem T5 : T 5 = ti5 := rfl
theorem T6 : T 6 = ti6 := rfl
theorem T7 : T 7 = ti7 := rfl
theorem T8 : T 8 = ti8 := rfl
theorem T9 : T 9 = ti9 := rfl
theorem T12 : T 12 = ti12 := rfl
theorem T21 : T 21 = ti21 := rfl
theorem T22 : T 22 = ti22 := rfl
theorem T25 : T 25 = ti25 := rfl
theorem T26 : T 26 = ti26 := rfl
theorem T28 : T 28 = ti28 := rfl
theorem T31 : T 31 = ti31 := rfl
theorem T35 : T 35 = ti35 := rfl
theorem T37 : T 37 = ti37 := rfl
theorem T41 : T 41 = ti41 := rfl
theorem T52 : T 52 = ti52 := rfl
theorem T58 : T 58 = ti58 := rfl
theorem T62 : T 62 = ti62 := rfl
theorem T66 : T 66 = ti66 := rfl
theorem T73 : T 73 = ti73 := rfl
theorem T76 : T 76 = ti76 := rfl
theorem T77 : T 77 = ti77 := rfl
theorem T79 : T 79 = ti79 := rfl
theorem T80 : T 80 = ti80 := rfl
theorem T87 : T 87 = ti87 := rfl
theorem T95 : T 95 = ti95 := rfl
end Go.Proofs.Ytnppegglggcceaa.A
