/- The cells' functions, walked. -/
import Derived.Test.YtomcobcmjocapaaGreatDoorD
import Derived.Deep.QuietTactic
namespace Go.Proofs.YtomcobcmjocapaaGreatDoor
open Go.RowKit Go.MuLone
theorem nil81 (b n c : Nat) (w : World) : (binOp .eql 81 (.slice (some ⟨b, 0, none⟩) n c) (.slice none 0 0)).run Tryz.prog w = .ok (.bool false) w := by kernel_rfl
section
variable {lo cb g : Nat} {ws : List Int}
set_option maxRecDepth 100000 in
set_option maxHeartbeats 1600000 in
theorem at_in (w : World) (h : CelR w lo cb g ws) (a : Nat) (ha : a < ws.length) (hl : ws.length ≤ 65536) :
    Calls Tryz.prog 63 #[.pointer (some ⟨cb, 0, none⟩), .int .u64 a] w fun e w' => e = .returned (.tuple #[.pointer (some ⟨g, a, none⟩), .int .i64 0]) ∧ w' = w := by
  have c0 := h.c0
  have i1 : (0 : Int) ≤ (a : Int) := by omega
  have i2 : (a : Int) < (ws.length : Int) := by omega
  have i3 : IntKind.u64.wrap (ws.length : Int) = (ws.length : Int) := by simp [IntKind.wrap_u64]; omega
  have hn := nil81 g ws.length ws.length w
  go_enter Tryz.func63, Tryz.ntmps63
  go_wp2
  go_ret2
  exact ⟨rfl, rfl⟩
set_option maxRecDepth 100000 in
set_option maxHeartbeats 1600000 in
theorem at_out (w : World) (h : CelR w lo cb g ws) (a : Nat) (ha : ws.length ≤ a) (hl : ws.length ≤ 65536) :
    Calls Tryz.prog 63 #[.pointer (some ⟨cb, 0, none⟩), .int .u64 a] w fun e w' => e = .returned (.tuple #[.pointer none, .int .i64 4]) ∧ w' = w := by
  have c0 := h.c0
  have i2 : (ws.length : Int) ≤ (a : Int) := by omega
  have i3 : IntKind.u64.wrap (ws.length : Int) = (ws.length : Int) := by simp [IntKind.wrap_u64]; omega
  have hn := nil81 g ws.length ws.length w
  go_enter Tryz.func63, Tryz.ntmps63
  go_wp2
  go_ret2
  exact ⟨rfl, rfl⟩
set_option maxRecDepth 100000 in
set_option maxHeartbeats 1600000 in
theorem celLoad (w : World) (h : CelR w lo cb g ws) (a : Nat) (x : Int) (hx : ws[a]? = some x) (hl : ws.length ≤ 65536) :
    Calls Tryz.prog 68 #[.pointer (some ⟨cb, 0, none⟩), .int .u64 a] w fun e w' => e = .returned (.tuple #[.int .u64 x, .int .i64 0]) ∧ w' = w := by
  have hlt := (List.getElem?_eq_some_iff.1 hx).1
  have H := Lib.hid (at_in w h a hlt hl)
  have HL := Lib.hid (u64Load w (h.at_ hx).1)
  clear h
  go_enter Tryz.func68, Tryz.ntmps68
  go_wp2_with (go_at_call 63; refine halt_ ?_)
  refine Halt_.go ?_
  refine H.out.mono ?_
  rintro e w' ⟨rfl, rfl⟩
  go_wp2_with (go_at_call 27; refine halt_ ?_)
  refine Halt_.go ?_
  refine HL.out.mono ?_
  rintro e w'' ⟨rfl, rfl⟩
  go_wp2
  go_ret2
  exact ⟨rfl, rfl⟩
set_option maxRecDepth 100000 in
set_option maxHeartbeats 1600000 in
theorem celLoadOut (w : World) (h : CelR w lo cb g ws) (a : Nat) (hx : ws.length ≤ a) (hl : ws.length ≤ 65536) :
    Calls Tryz.prog 68 #[.pointer (some ⟨cb, 0, none⟩), .int .u64 a] w fun e w' => e = .returned (.tuple #[.int .u64 0, .int .i64 4]) ∧ w' = w := by
  have H := Lib.hid (at_out w h a hx hl)
  clear h
  go_enter Tryz.func68, Tryz.ntmps68
  go_wp2_with (go_at_call 63; refine halt_ ?_)
  refine Halt_.go ?_
  refine H.out.mono ?_
  rintro e w' ⟨rfl, rfl⟩
  go_wp2
  go_ret2
  exact ⟨rfl, rfl⟩
set_option maxRecDepth 100000 in
set_option maxHeartbeats 1600000 in
theorem celStore (w : World) (h : CelR w lo cb g ws) (a : Nat) (y : Int) (ha : a < ws.length) (hl : ws.length ≤ 65536) :
    Calls Tryz.prog 47 #[.pointer (some ⟨cb, 0, none⟩), .int .u64 a, .int .u64 y] w fun e w' => e = .returned (.int .i64 0) ∧ w' = w.setCell ⟨g, a, none⟩ (.int .u64 y) := by
  have H := Lib.hid (at_in w h a ha hl)
  have hx : ws[a]? = some ws[a] := by simp [ha]
  have HL := Lib.hid (u64Store (y := y) w (h.at_ hx).1 (h.at_ hx).2)
  clear h hx
  go_enter Tryz.func47, Tryz.ntmps47
  go_wp2_with (go_at_call 63; refine halt_ ?_)
  refine Halt_.go ?_
  refine H.out.mono ?_
  rintro e w' ⟨rfl, rfl⟩
  go_wp2_with (go_at_call 33; refine halt_ ?_)
  refine Halt_.go ?_
  refine HL.out.mono ?_
  rintro e w'' ⟨rfl, rfl⟩
  go_wp2
  go_ret
  exact ⟨rfl, rfl⟩
theorem CelR.set {w : World} (h : CelR w lo cb g ws) (a : Nat) (y : Int) : CelR (w.setCell ⟨g, a, none⟩ (.int .u64 y)) lo cb g (ws.set a y) := by
  have hne := blk_ne h.blk h.row (by decide)
  refine ⟨?_, ?_, by simpa using h.pos⟩
  · rw [List.length_set]
    exact h.blk.kept (Below.heap_setCell w ⟨g, a, none⟩ _ cb (fun e => hne e.symm))
  · have := (World.ownsRow.stored h.row a (.int .u64 y)).1
    simpa [wds] using this
set_option maxRecDepth 100000 in
set_option maxHeartbeats 1600000 in
theorem celLen (w : World) (h : CelR w lo cb g ws) :
    Calls Tryz.prog 20 #[.pointer (some ⟨cb, 0, none⟩)] w fun e w' => e = .returned (.int .i64 ws.length) ∧ w' = w := by
  have c0 := h.c0
  go_enter Tryz.func20, Tryz.ntmps20
  go_wp2
  go_ret
  exact ⟨rfl, rfl⟩
end
section
variable {w : World} {lo m cb g sc ch : Nat} {ws : List Int} {ck st od : Int} {sb : Bool}
theorem MemR.c (h : MemR w lo m cb g sc ch ws ck st od sb) {i : Nat} (hi : i < 11) : w.cell? ⟨m, i, none⟩ = some (memF cb sc ch ck st od i) ∧ w.frozen? ⟨m, i, none⟩ = false := h.blk.cell hi
set_option maxRecDepth 100000 in
set_option maxHeartbeats 1600000 in
theorem memNone (w : World) (h : MemR w lo m cb g sc ch ws ck st od sb) :
    Calls Tryz.prog 19 #[.pointer (some ⟨m, 0, none⟩)] w fun e w' => e = .returned (.bool false) ∧ w' = w := by
  have c0 : w.cell? ⟨m, 0, none⟩ = some (.pointer (some ⟨cb, 0, none⟩)) := (h.c (i := 0) (by omega)).1
  go_enter Tryz.func19, Tryz.ntmps19
  go_wp2
  go_ret
  exact ⟨rfl, rfl⟩
set_option maxRecDepth 100000 in
set_option maxHeartbeats 1600000 in
theorem memOpen (w : World) (h : MemR w lo m cb g sc ch ws ck st od sb) (hev : ck = 0 ∨ ck = 2 ∨ ck = 4) :
    Calls Tryz.prog 25 #[.pointer (some ⟨m, 0, none⟩)] w fun e w' => e = .returned (.int .u64 ck) ∧ w' = w := by
  have HL := Lib.hid (u64Load w (h.c (i := 1) (by omega)).1)
  clear h
  go_enter Tryz.func25, Tryz.ntmps25
  go_wp2
  refine wp_loop_once ?_
  go_wp2_with (go_at_call 27; refine halt_ ?_)
  refine Halt_.go ?_
  refine HL.out.mono ?_
  rintro e w' ⟨rfl, rfl⟩
  rcases hev with rfl | rfl | rfl
  all_goals (go_wp2; go_ret; exact ⟨rfl, rfl⟩)
set_option maxRecDepth 100000 in
set_option maxHeartbeats 1600000 in
theorem memNumber (w : World) (h : MemR w lo m cb g sc ch ws ck st od sb) (hev : ck = 0 ∨ ck = 2 ∨ ck = 4) :
    Calls Tryz.prog 13 #[.pointer (some ⟨m, 0, none⟩)] w fun e w' => e = .returned (.int .u64 (ck / 2)) ∧ w' = w := by
  have HL := Lib.hid (u64Load w (h.c (i := 1) (by omega)).1)
  have HN := Lib.hid (memNone w h)
  clear h
  go_enter Tryz.func13, Tryz.ntmps13
  go_wp2_with (go_at_call 19; refine halt_ ?_)
  refine Halt_.go ?_
  refine HN.out.mono ?_
  rintro e w' ⟨rfl, rfl⟩
  go_wp2_with (go_at_call 27; refine halt_ ?_)
  refine Halt_.go ?_
  refine HL.out.mono ?_
  rintro e w' ⟨rfl, rfl⟩
  rcases hev with rfl | rfl | rfl
  all_goals (go_wp2; go_ret; exact ⟨rfl, rfl⟩)
end
end Go.Proofs.YtomcobcmjocapaaGreatDoor
