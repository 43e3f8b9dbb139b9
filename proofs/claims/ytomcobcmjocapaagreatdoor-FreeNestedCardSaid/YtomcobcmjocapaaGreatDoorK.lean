/- The logs' All: the closures. -/
import Derived.Test.YtomcobcmjocapaaGreatDoorJ
import Derived.Deep.QuietTactic
namespace Go.Proofs.YtomcobcmjocapaaGreatDoor
open Go.RowKit
theorem mkFn (fn : Fn) (first cap : Array Value) (w : World) : (Instr.makeFunc fn first cap).run Tryz.prog w = .ok (.func fn first cap) w := rfl
theorem overF (f b : Nat) (w : World) : Calls Tryz.prog 61 #[.func (.func f) #[] #[.pointer (some ⟨b, 0, none⟩)]] w fun e w' => e = .returned (.func (.func 74) #[] #[.pointer (some ⟨w.heap.size, 0, none⟩)]) ∧ w' = w.alloc (.cells #[.func (.func f) #[] #[.pointer (some ⟨b, 0, none⟩)]] 125) := by
  have hmf := mkFn
  go_enter Tryz.func61, Tryz.ntmps61
  go_wp2
  go_ret
  exact ⟨rfl, rfl⟩
/-- the world behind All: a box for the log, a box for the closure -/
def allW (w : World) (t f : Nat) (p : Addr) : World := (w.alloc (.cells #[.pointer (some p)] t)).alloc (.cells #[.func (.func f) #[] #[.pointer (some ⟨w.heap.size, 0, none⟩)]] 125)
theorem readsAll (rd : Nat) (w : World) : Calls Tryz.prog 67 #[.pointer (some ⟨rd, 0, none⟩)] w fun e w' => e = .returned (.func (.func 74) #[] #[.pointer (some ⟨w.heap.size + 1, 0, none⟩)]) ∧ w' = allW w 75 83 ⟨rd, 0, none⟩ := by
  have hmf := mkFn
  go_enter Tryz.func67, Tryz.ntmps67
  go_wp2_with (go_at_call 61; refine halt_ ?_)
  refine Halt_.go ?_
  refine (overF 83 w.heap.size _).mono ?_
  rintro e w' ⟨rfl, rfl⟩
  go_wp2
  go_ret
  exact ⟨by simp, rfl⟩
theorem redoAll (ro : Nat) (w : World) : Calls Tryz.prog 46 #[.pointer (some ⟨ro, 0, none⟩)] w fun e w' => e = .returned (.func (.func 74) #[] #[.pointer (some ⟨w.heap.size + 1, 0, none⟩)]) ∧ w' = allW w 76 62 ⟨ro, 0, none⟩ := by
  have hmf := mkFn
  go_enter Tryz.func46, Tryz.ntmps46
  go_wp2_with (go_at_call 61; refine halt_ ?_)
  refine Halt_.go ?_
  refine (overF 62 w.heap.size _).mono ?_
  rintro e w' ⟨rfl, rfl⟩
  go_wp2
  go_ret
  exact ⟨by simp, rfl⟩
section
variable {w w' : World} {lo rd ro tb sg : Nat} {vR vD vP vK : Value} {R : List (Int × Int)} {D : Option (Int × Int)}
set_option maxRecDepth 100000 in
set_option maxHeartbeats 1600000 in
theorem readsAll1 (w : World) (h : ReadsR w lo rd vR R) (bx : Nat) (hb : w.cell? ⟨bx, 0, none⟩ = some (.pointer (some ⟨rd, 0, none⟩))) (A : Option Addr) (c : Nat) (hv : vR = .slice A R.length c) :
    Calls Tryz.prog 83 #[.pointer (some ⟨bx, 0, none⟩)] w fun e w' => e = .returned (.slice A R.length R.length) ∧ ∃ n, w' = w.drewN n := by
  subst hv
  have hcap := own_cap h.row
  have c2 := h.c.2.1
  have HN := Lib.hid (readsNone w h)
  have i1 : (R.length : Int) ≤ (c : Int) := by omega
  have i2 : (0 : Int) ≤ (R.length : Int) := by omega
  have i3 : R.length ≤ c := hcap.1
  clear h hcap
  go_enter Tryz.func83, Tryz.ntmps83
  go_wp2_with (go_at_call 84; refine halt_ ?_)
  refine Halt_.go ?_
  refine HN.out.mono ?_
  rintro e w' ⟨rfl, rfl⟩
  go_wp2
  go_quiet (fail)
  go_wp2
  go_ret
  exact ⟨rfl, _, rfl⟩
set_option maxRecDepth 100000 in
set_option maxHeartbeats 1600000 in
theorem redoAll1 (w : World) (h : RedoR w lo ro tb sg vD vP vK D) (bx : Nat) (hb : w.cell? ⟨bx, 0, none⟩ = some (.pointer (some ⟨ro, 0, none⟩))) (A : Option Addr) (c : Nat) (hv : vD = .slice A (on D) c) :
    Calls Tryz.prog 62 #[.pointer (some ⟨bx, 0, none⟩)] w fun e w' => e = .returned (.slice A (on D) (on D)) ∧ ∃ n, w' = w.drewN n := by
  subst hv
  have hcap := own_cap h.row
  have c2 : w.cell? ⟨ro, 2, none⟩ = some (.slice A (on D) c) := (h.c (i := 2) (by omega)).1
  have HN := Lib.hid (redoNone w h)
  have i1 : (on D : Int) ≤ (c : Int) := by omega
  have i2 : (0 : Int) ≤ (on D : Int) := by omega
  have i3 : on D ≤ c := hcap.1
  clear h hcap
  generalize on D = k at *
  go_enter Tryz.func62, Tryz.ntmps62
  go_wp2_with (go_at_call 58; refine halt_ ?_)
  refine Halt_.go ?_
  refine HN.out.mono ?_
  rintro e w' ⟨rfl, rfl⟩
  go_wp2
  go_quiet (fail)
  go_wp2
  go_ret
  exact ⟨rfl, _, rfl⟩
end
end Go.Proofs.YtomcobcmjocapaaGreatDoor
