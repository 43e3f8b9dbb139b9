/- The logs: reads and redo. -/
import Derived.Test.YtomcobcmjocapaaGreatDoorF
import Derived.Deep.QuietTactic
import Derived.BigQuiet
namespace Go.Proofs.YtomcobcmjocapaaGreatDoor
open Go.RowKit
section
variable {w w' : World} {lo tb sg : Nat} {vK : Value} {D : Option Int}
set_option maxRecDepth 100000 in
set_option maxHeartbeats 1600000 in
theorem tabGet (w : World) (h : TabR w lo tb sg vK D) (hd : Deb w) (a : Nat) (hD : D = none ∨ D = some (a : Int)) :
    Calls Tryz.prog 69 #[.pointer (some ⟨tb, 0, none⟩), .int .u64 a] w fun e w' => e = .returned (.tuple #[.int .i64 0, .bool D.isSome]) ∧ ∃ n, w' = w.drewN n := by
  have c0 := h.c0.1
  obtain ⟨j, hj⟩ := Int.eq_ofNat_of_zero_le (hm_lt a).1
  have hj8 : j < 8 := by have := (hm_lt a).2; omega
  have HM := Lib.hid (tabMade w h)
  have HT := Lib.hid (tabLook w h hd a hD)
  rw [hj] at HT
  have s0 : w.cell? ⟨sg, j * 3, none⟩ = some (.bool D.isSome) := by
    refine (h.slot hj8 (t := 0) (by omega) ?_).1
    rcases hD with rfl | rfl
    · rfl
    · simp [slotV, hj]
  have s2 : w.cell? ⟨sg, j * 3 + 2, none⟩ = some (.int .i64 0) := by
    refine (h.slot hj8 (t := 2) (by omega) ?_).1
    rcases hD with rfl | rfl
    · rfl
    · simp [slotV, hj]
  have i1 : (0 : Int) ≤ (j : Int) := by omega
  have i2 : (j : Int) < 8 := by omega
  clear h hj hD
  generalize D.isSome = used at *
  go_enter Tryz.func69, Tryz.ntmps69
  go_wp2_with (go_at_call 85; refine halt_ ?_)
  refine Halt_.go ?_
  refine HM.out.mono ?_
  rintro e w' ⟨rfl, rfl⟩
  go_wp2_with (go_at_call 70; refine halt_ ?_)
  refine Halt_.go ?_
  refine HT.out.mono ?_
  rintro e w' ⟨rfl, rfl⟩
  go_wp2
  go_quiet (fail)
  go_wp2
  go_ret2
  exact ⟨rfl, _, rfl⟩
end
def pcells (p : Int × Int) : List Value := [.int .u64 p.1, .int .u64 p.2]
/-- a read log -/
structure ReadsR (w : World) (lo rd : Nat) (vR : Value) (R : List (Int × Int)) : Prop where
  blk : Blk w lo 112 rd 3 (fun i => if i = 0 then .bool true else if i = 1 then .int .i64 1024 else vR)
  row : w.ownsRow lo 102 2 vR R.length (R.flatMap pcells)
def redoL (D : Option (Int × Int)) : List Value := match D with | none => [] | some p => pcells p
def pastL (D : Option (Int × Int)) : List Value := match D with | none => [] | some _ => [.int .i64 0, .int .u64 0, .bool true]
def on (D : Option (Int × Int)) : Nat := match D with | none => 0 | some _ => 1
/-- a redo log with no entry or one -/
structure RedoR (w : World) (lo ro tb sg : Nat) (vD vP vK : Value) (D : Option (Int × Int)) : Prop where
  blk : Blk w lo 117 ro 5 (fun i => if i = 0 then .bool true else if i = 1 then .int .i64 1024 else if i = 2 then vD else if i = 3 then .pointer (some ⟨tb, 0, none⟩) else vP)
  row : w.ownsRow lo 102 2 vD (on D) (redoL D)
  past : w.ownsRow lo 120 3 vP (on D) (pastL D)
  tab : TabR w lo tb sg vK (D.map Prod.fst)
section
variable {w w' : World} {lo rd ro tb sg : Nat} {vR vD vP vK : Value} {R : List (Int × Int)} {D : Option (Int × Int)}
theorem ReadsR.c (h : ReadsR w lo rd vR R) : (w.cell? ⟨rd, 0, none⟩ = some (.bool true) ∧ w.cell? ⟨rd, 1, none⟩ = some (.int .i64 1024)) ∧ w.cell? ⟨rd, 2, none⟩ = some vR ∧ w.frozen? ⟨rd, 2, none⟩ = false :=
  ⟨⟨(h.blk.cell (j := 0) (by omega)).1, (h.blk.cell (j := 1) (by omega)).1⟩, (h.blk.cell (j := 2) (by omega)).1, (h.blk.cell (j := 2) (by omega)).2⟩
theorem RedoR.c (h : RedoR w lo ro tb sg vD vP vK D) {i : Nat} (hi : i < 5) : w.cell? ⟨ro, i, none⟩ = some (if i = 0 then .bool true else if i = 1 then .int .i64 1024 else if i = 2 then vD else if i = 3 then .pointer (some ⟨tb, 0, none⟩) else vP) ∧ w.frozen? ⟨ro, i, none⟩ = false := h.blk.cell hi
set_option maxRecDepth 100000 in
set_option maxHeartbeats 1600000 in
theorem readsNone (w : World) (h : ReadsR w lo rd vR R) :
    Calls Tryz.prog 84 #[.pointer (some ⟨rd, 0, none⟩)] w fun e w' => e = .returned (.bool false) ∧ w' = w := by
  have c0 := h.c.1.1
  go_enter Tryz.func84, Tryz.ntmps84
  go_wp2
  go_ret
  exact ⟨rfl, rfl⟩
set_option maxRecDepth 100000 in
set_option maxHeartbeats 1600000 in
theorem redoNone (w : World) (h : RedoR w lo ro tb sg vD vP vK D) :
    Calls Tryz.prog 58 #[.pointer (some ⟨ro, 0, none⟩)] w fun e w' => e = .returned (.bool false) ∧ w' = w := by
  have c0 : w.cell? ⟨ro, 0, none⟩ = some (.bool true) := (h.c (i := 0) (by omega)).1
  go_enter Tryz.func58, Tryz.ntmps58
  go_wp2
  go_ret
  exact ⟨rfl, rfl⟩
set_option maxRecDepth 100000 in
set_option maxHeartbeats 1600000 in
theorem readsLen (w : World) (h : ReadsR w lo rd vR R) :
    Calls Tryz.prog 117 #[.pointer (some ⟨rd, 0, none⟩)] w fun e w' => e = .returned (.int .i64 R.length) ∧ w' = w := by
  obtain ⟨A, c, rfl⟩ := own_shape h.row
  have c2 := h.c.2.1
  have HN := Lib.hid (readsNone w h)
  clear h
  go_enter Tryz.func117, Tryz.ntmps117
  go_wp2_with (go_at_call 84; refine halt_ ?_)
  refine Halt_.go ?_
  refine HN.out.mono ?_
  rintro e w' ⟨rfl, rfl⟩
  go_wp2
  go_ret
  exact ⟨rfl, rfl⟩
set_option maxRecDepth 100000 in
set_option maxHeartbeats 1600000 in
theorem redoLen (w : World) (h : RedoR w lo ro tb sg vD vP vK D) :
    Calls Tryz.prog 43 #[.pointer (some ⟨ro, 0, none⟩)] w fun e w' => e = .returned (.int .i64 (on D)) ∧ w' = w := by
  obtain ⟨A, c, rfl⟩ := own_shape h.row
  have c2 : w.cell? ⟨ro, 2, none⟩ = some (.slice A (on D) c) := (h.c (i := 2) (by omega)).1
  have HN := Lib.hid (redoNone w h)
  clear h
  go_enter Tryz.func43, Tryz.ntmps43
  go_wp2_with (go_at_call 58; refine halt_ ?_)
  refine Halt_.go ?_
  refine HN.out.mono ?_
  rintro e w' ⟨rfl, rfl⟩
  go_wp2
  go_ret
  exact ⟨rfl, rfl⟩
set_option maxRecDepth 100000 in
set_option maxHeartbeats 1600000 in
theorem redoMark (w : World) (h : RedoR w lo ro tb sg vD vP vK D) :
    Calls Tryz.prog 41 #[.pointer (some ⟨ro, 0, none⟩)] w fun e w' => e = .returned (.int .i64 (on D)) ∧ w' = w := by
  obtain ⟨A, c, rfl⟩ := own_shape h.past
  have c2 : w.cell? ⟨ro, 4, none⟩ = some (.slice A (on D) c) := (h.c (i := 4) (by omega)).1
  have HN := Lib.hid (redoNone w h)
  clear h
  go_enter Tryz.func41, Tryz.ntmps41
  go_wp2_with (go_at_call 58; refine halt_ ?_)
  refine Halt_.go ?_
  refine HN.out.mono ?_
  rintro e w' ⟨rfl, rfl⟩
  go_wp2
  go_ret
  exact ⟨rfl, rfl⟩
/-- Get of a log without entries -/
theorem redoGet (w : World) (h : RedoR w lo ro tb sg vD vP vK none) (hd : Deb w) (a : Nat) :
    Calls Tryz.prog 116 #[.pointer (some ⟨ro, 0, none⟩), .int .u64 a] w fun e w' => e = .returned (.tuple #[.int .u64 0, .bool false]) ∧ ∃ n, w' = w.drewN n := by
  have c3 : w.cell? ⟨ro, 3, none⟩ = some (.pointer (some ⟨tb, 0, none⟩)) := (h.c (i := 3) (by omega)).1
  have HN := Lib.hid (redoNone w h)
  have HG := Lib.hid (tabGet w h.tab hd a (.inl rfl))
  clear h
  go_enter Tryz.func116, Tryz.ntmps116
  go_wp2_with (go_at_call 58; refine halt_ ?_)
  refine Halt_.go ?_
  refine HN.out.mono ?_
  rintro e w' ⟨rfl, rfl⟩
  go_wp2_with (go_at_call 69; refine halt_ ?_)
  refine Halt_.go ?_
  refine HG.out.mono ?_
  rintro e w' ⟨rfl, n, rfl⟩
  go_wp2
  go_ret2
  exact ⟨rfl, _, rfl⟩
end
end Go.Proofs.YtomcobcmjocapaaGreatDoor
