/- Atomics, flags: the small functions. -/
import Derived.Test.YtomcobcmjocapaaGreatDoorA
import Derived.Laws.LoneSync
import Derived.WalkMore
import Derived.RegionCalls
import Derived.Defers
namespace Go.Proofs.YtomcobcmjocapaaGreatDoor
open Go.RowKit

theorem ld64 {a : Addr} {x : Int} {w : World} (hc : w.cell? a = some (.int .u64 x)) : (callFunc 37 #[.pointer (some a)]).run Tryz.prog w = .ok (.value (.int .u64 x)) w :=
  run_call_load Tryz.func37 (by kernel_rfl) (by kernel_rfl) (by kernel_rfl) .u64 (by kernel_rfl) hc
theorem ld32 {a : Addr} {x : Int} {w : World} (hc : w.cell? a = some (.int .u32 x)) : (callFunc 55 #[.pointer (some a)]).run Tryz.prog w = .ok (.value (.int .u32 x)) w :=
  run_call_load Tryz.func55 (by kernel_rfl) (by kernel_rfl) (by kernel_rfl) .u32 (by kernel_rfl) hc
theorem st64 {a : Addr} {u : Value} {y : Int} {w : World} (hc : w.cell? a = some u) (hz : w.frozen? a = false) : (callFunc 52 #[.pointer (some a), .int .u64 y]).run Tryz.prog w = .ok (.value (.tuple #[])) (w.setCell a (.int .u64 y)) :=
  run_call_store Tryz.func52 (by kernel_rfl) (by kernel_rfl) (by kernel_rfl) (by kernel_rfl) hc hz
theorem st32 {a : Addr} {u : Value} {y : Int} {w : World} (hc : w.cell? a = some u) (hz : w.frozen? a = false) : (callFunc 57 #[.pointer (some a), .int .u32 y]).run Tryz.prog w = .ok (.value (.tuple #[])) (w.setCell a (.int .u32 y)) :=
  run_call_store Tryz.func57 (by kernel_rfl) (by kernel_rfl) (by kernel_rfl) (by kernel_rfl) hc hz
theorem cas32h {a : Addr} {x y : Int} {w : World} (hc : w.cell? a = some (.int .u32 x)) (hz : w.frozen? a = false) : (callFunc 53 #[.pointer (some a), .int .u32 x, .int .u32 y]).run Tryz.prog w = .ok (.value (.bool true)) (w.setCell a (.int .u32 y)) :=
  run_call_cas_hit Tryz.func53 (by kernel_rfl) (by kernel_rfl) (by kernel_rfl) .u32 (by kernel_rfl) hc hz
theorem cas32m {a : Addr} {x o y : Int} {w : World} (hc : w.cell? a = some (.int .u32 x)) (hz : w.frozen? a = false) (hne : ¬ x = o) : (callFunc 53 #[.pointer (some a), .int .u32 o, .int .u32 y]).run Tryz.prog w = .ok (.value (.bool false)) w :=
  run_call_cas_miss Tryz.func53 (by kernel_rfl) (by kernel_rfl) (by kernel_rfl) .u32 (by kernel_rfl) hc hz hne
theorem cas64h {a : Addr} {x y : Int} {w : World} (hc : w.cell? a = some (.int .u64 x)) (hz : w.frozen? a = false) : (callFunc 60 #[.pointer (some a), .int .u64 x, .int .u64 y]).run Tryz.prog w = .ok (.value (.bool true)) (w.setCell a (.int .u64 y)) :=
  run_call_cas_hit Tryz.func60 (by kernel_rfl) (by kernel_rfl) (by kernel_rfl) .u64 (by kernel_rfl) hc hz
theorem cas64m {a : Addr} {x o y : Int} {w : World} (hc : w.cell? a = some (.int .u64 x)) (hz : w.frozen? a = false) (hne : ¬ x = o) : (callFunc 60 #[.pointer (some a), .int .u64 o, .int .u64 y]).run Tryz.prog w = .ok (.value (.bool false)) w :=
  run_call_cas_miss Tryz.func60 (by kernel_rfl) (by kernel_rfl) (by kernel_rfl) .u64 (by kernel_rfl) hc hz hne
theorem add64 {a : Addr} {x y s : Int} {w : World} (hc : w.cell? a = some (.int .i64 x)) (hz : w.frozen? a = false) (hs : IntKind.i64.wrap (x + y) = s) : (callFunc 66 #[.pointer (some a), .int .i64 y]).run Tryz.prog w = .ok (.value (.int .i64 s)) (w.setCell a (.int .i64 s)) :=
  run_call_add Tryz.func66 (by kernel_rfl) (by kernel_rfl) (by kernel_rfl) .i64 (by kernel_rfl) hc hz (by rw [← hs]; rfl)

theorem u64Load {a : Addr} {x : Int} (w : World) (hc : w.cell? a = some (.int .u64 x)) : Calls Tryz.prog 27 #[.pointer (some a)] w fun e w' => e = .returned (.int .u64 x) ∧ w' = w := by
  have h := ld64 hc
  obtain ⟨b, off, sp⟩ := a
  go_enter Tryz.func27, Tryz.ntmps27
  go_wp2
  go_ret
  exact ⟨rfl, rfl⟩
theorem u64Store {a : Addr} {u : Value} {y : Int} (w : World) (hc : w.cell? a = some u) (hz : w.frozen? a = false) : Calls Tryz.prog 33 #[.pointer (some a), .int .u64 y] w fun e w' => e = .returned (.tuple #[]) ∧ w' = w.setCell a (.int .u64 y) := by
  have h := st64 (y := y) hc hz
  obtain ⟨b, off, sp⟩ := a
  go_enter Tryz.func33, Tryz.ntmps33
  go_wp2
  go_end0
  exact ⟨rfl, rfl⟩
theorem u64CasH {a : Addr} {x y : Int} (w : World) (hc : w.cell? a = some (.int .u64 x)) (hz : w.frozen? a = false) : Calls Tryz.prog 44 #[.pointer (some a), .int .u64 x, .int .u64 y] w fun e w' => e = .returned (.bool true) ∧ w' = w.setCell a (.int .u64 y) := by
  have h := cas64h (y := y) hc hz
  obtain ⟨b, off, sp⟩ := a
  go_enter Tryz.func44, Tryz.ntmps44
  go_wp2
  go_ret
  exact ⟨rfl, rfl⟩
theorem u64CasM {a : Addr} {x o y : Int} (w : World) (hc : w.cell? a = some (.int .u64 x)) (hz : w.frozen? a = false) (hne : ¬ x = o) : Calls Tryz.prog 44 #[.pointer (some a), .int .u64 o, .int .u64 y] w fun e w' => e = .returned (.bool false) ∧ w' = w := by
  have h := cas64m (y := y) hc hz hne
  obtain ⟨b, off, sp⟩ := a
  go_enter Tryz.func44, Tryz.ntmps44
  go_wp2
  go_ret
  exact ⟨rfl, rfl⟩
theorem boolLoad {a : Addr} {x : Int} (w : World) (hc : w.cell? a = some (.int .u32 x)) : Calls Tryz.prog 35 #[.pointer (some a)] w fun e w' => e = .returned (.bool (x != 0)) ∧ w' = w := by
  have h := ld32 hc
  obtain ⟨b, off, sp⟩ := a
  go_enter Tryz.func35, Tryz.ntmps35
  go_wp2
  go_ret
  exact ⟨rfl, rfl⟩
end Go.Proofs.YtomcobcmjocapaaGreatDoor
