/- The mutex's numbers; once; bools; flags. -/
import Derived.Test.YtomcobcmjocapaaGreatDoorB
import Derived.Conc.MuLone
import Derived.Recover
namespace Go.Proofs.YtomcobcmjocapaaGreatDoor
open Go.RowKit Go.MuLone

abbrev muLink : Go.Conc.Locks.MuLink := { lock := 48, unlock := 49, ilock := 64, iunlock := 65, lockSlow := 79, unlockSlow := 82, disable := 75, enable := 77, acquire := 78, relMerge := 80, cas32 := 76, add32 := 81, tMutex := 62, tIMutex := 60, tPMutex := 128, tPIMutex := 143, tPI32 := 145, tUP := 147, tNoCopy := 58, tU32 := 53 }
theorem muLib : Go.Conc.Locks.MuLib Tryz.prog muLink :=
  ⟨Tryz.func48, Tryz.func49, Tryz.func64, Tryz.func65, Tryz.func75, Tryz.func77, Tryz.func78, Tryz.func80, Tryz.func76, Tryz.func81, Tryz.underlying60, Tryz.runUnderlying60, Tryz.sizeOf60, Tryz.isAgg60, Tryz.zeroValue60, Tryz.underlying62, Tryz.runUnderlying62, Tryz.sizeOf62, Tryz.isAgg62, Tryz.zeroValue62, Tryz.underlying128, Tryz.runUnderlying128, Tryz.sizeOf128, Tryz.isAgg128, Tryz.zeroValue128, Tryz.underlying143, Tryz.runUnderlying143, Tryz.sizeOf143, Tryz.isAgg143, Tryz.zeroValue143, Tryz.underlying145, Tryz.runUnderlying145, Tryz.sizeOf145, Tryz.isAgg145, Tryz.zeroValue145, Tryz.underlying147, Tryz.runUnderlying147, Tryz.sizeOf147, Tryz.isAgg147, Tryz.zeroValue147, Tryz.underlying58, Tryz.runUnderlying58, Tryz.sizeOf58, Tryz.isAgg58, Tryz.zeroValue58, Tryz.underlying21, Tryz.runUnderlying21, Tryz.sizeOf21, Tryz.isAgg21, Tryz.zeroValue21, (by kernel_rfl)⟩

theorem b32T (w : World) : Calls Tryz.prog 54 #[.bool true] w fun e w' => e = .returned (.int .u32 1) ∧ w' = w := by
  go_enter Tryz.func54, Tryz.ntmps54
  go_wp2
  go_ret
  exact ⟨rfl, rfl⟩
theorem b32F (w : World) : Calls Tryz.prog 54 #[.bool false] w fun e w' => e = .returned (.int .u32 0) ∧ w' = w := by
  go_enter Tryz.func54, Tryz.ntmps54
  go_wp2
  go_ret
  exact ⟨rfl, rfl⟩
set_option maxRecDepth 100000 in
theorem boolStore (a : Addr) (u : Value) (w : World) (hc : w.cell? a = some u) (hz : w.frozen? a = false) :
    Calls Tryz.prog 40 #[.pointer (some a), .bool true] w fun e w' => e = .returned (.tuple #[]) ∧ w' = (w.setCell a (.int .u32 1)).drew := by
  obtain ⟨b, off, sp⟩ := a
  have h : (callFunc 57 #[.pointer (some ⟨b, off, sp⟩), .int .u32 1]).run Tryz.prog w.drew = .ok (.value (.tuple #[])) (w.drew.setCell ⟨b, off, sp⟩ (.int .u32 1)) := st32 (w := w.drew) hc hz
  go_enter Tryz.func40, Tryz.ntmps40
  go_wp2
  go_region_calls
  all_goals (go_end0; exact ⟨rfl, rfl⟩)
set_option maxRecDepth 100000 in
theorem boolStoreD (a : Addr) (u : Value) (m : FrameMode) (w : World) (hc : w.cell? a = some u) (hz : w.frozen? a = false) :
    CallsD Tryz.prog 40 #[.pointer (some a), .bool true] m w fun e m' w' => m' = m ∧ (e = .returned (.tuple #[]) ∧ w' = (w.setCell a (.int .u32 1)).drew) := by
  obtain ⟨b, off, sp⟩ := a
  have h : (callFunc 57 #[.pointer (some ⟨b, off, sp⟩), .int .u32 1]).run Tryz.prog w.drew = .ok (.value (.tuple #[])) (w.drew.setCell ⟨b, off, sp⟩ (.int .u32 1)) := st32 (w := w.drew) hc hz
  go_enter_d Tryz.func40, Tryz.ntmps40
  go_wp2
  go_region_calls
  all_goals (go_end0; exact ⟨rfl, rfl⟩)
set_option maxRecDepth 100000 in
theorem boolCasH (a : Addr) (w : World) (hc : w.cell? a = some (.int .u32 0)) (hz : w.frozen? a = false) :
    Calls Tryz.prog 34 #[.pointer (some a), .bool false, .bool true] w fun e w' => e = .returned (.bool true) ∧ w' = (w.setCell a (.int .u32 1)).drew := by
  obtain ⟨b, off, sp⟩ := a
  have h : (callFunc 53 #[.pointer (some ⟨b, off, sp⟩), .int .u32 0, .int .u32 1]).run Tryz.prog w.drew = .ok (.value (.bool true)) (w.drew.setCell ⟨b, off, sp⟩ (.int .u32 1)) := cas32h (w := w.drew) hc hz
  go_enter Tryz.func34, Tryz.ntmps34
  go_wp2
  go_region_calls
  all_goals (go_wp2; go_ret; exact ⟨rfl, rfl⟩)
theorem i64Add {a : Addr} {x y s : Int} (w : World) (hc : w.cell? a = some (.int .i64 x)) (hz : w.frozen? a = false) (hs : IntKind.i64.wrap (x + y) = s) :
    Calls Tryz.prog 50 #[.pointer (some a), .int .i64 y] w fun e w' => e = .returned (.int .i64 s) ∧ w' = w.setCell a (.int .i64 s) := by
  have h := add64 hc hz hs
  obtain ⟨b, off, sp⟩ := a
  clear hs
  go_enter Tryz.func50, Tryz.ntmps50
  go_wp2
  go_ret
  exact ⟨rfl, rfl⟩
theorem i64AddD {a : Addr} {x y s : Int} (m : FrameMode) (w : World) (hc : w.cell? a = some (.int .i64 x)) (hz : w.frozen? a = false) (hs : IntKind.i64.wrap (x + y) = s) :
    CallsD Tryz.prog 50 #[.pointer (some a), .int .i64 y] m w fun e m' w' => m' = m ∧ (e = .returned (.int .i64 s) ∧ w' = w.setCell a (.int .i64 s)) := by
  have h := add64 hc hz hs
  obtain ⟨b, off, sp⟩ := a
  clear hs
  go_enter_d Tryz.func50, Tryz.ntmps50
  go_wp2
  go_ret
  exact ⟨rfl, rfl⟩
theorem isSet {a : Addr} {x : Int} (w : World) (hc : w.cell? a = some (.int .u32 x)) : Calls Tryz.prog 28 #[.pointer (some a)] w fun e w' => e = .returned (.bool (x != 0)) ∧ w' = w := by
  have h := boolLoad w hc
  obtain ⟨b, off, sp⟩ := a
  go_enter Tryz.func28, Tryz.ntmps28
  go_wp2_with (go_at_call 35; refine halt_ ?_)
  refine Halt_.go ?_
  refine h.mono ?_
  rintro e w' ⟨rfl, rfl⟩
  go_wp2
  go_ret
  exact ⟨rfl, rfl⟩
theorem flagSet (a : Addr) (w : World) (hc : w.cell? a = some (.int .u32 0)) (hz : w.frozen? a = false) :
    Calls Tryz.prog 22 #[.pointer (some a)] w fun e w' => e = .returned (.bool true) ∧ w' = (w.setCell a (.int .u32 1)).drew := by
  have h := boolCasH a w hc hz
  obtain ⟨b, off, sp⟩ := a
  go_enter Tryz.func22, Tryz.ntmps22
  go_wp2_with (go_at_call 34; refine halt_ ?_)
  refine Halt_.go ?_
  refine h.mono ?_
  rintro e w' ⟨rfl, rfl⟩
  go_wp2
  go_ret
  exact ⟨rfl, rfl⟩
end Go.Proofs.YtomcobcmjocapaaGreatDoor
