/- one, of one function. -/
import Derived.Test.YtomcobcmjocapaaGreatDoorZ
namespace Go.Proofs.YtomcobcmjocapaaGreatDoor
open Go.RowKit Go.MuLone
theorem callHalt {P : Program} {f : FuncId} {args : Array Value} {w : World} {Q : Ending → World → Prop} (h : Halt_ (Calls P f args w Q)) : Calls P f args w Q := h
section
variable {lo m b : Nat} {sn : Int} {R : List (Int × Int)} {I : TI}
set_option maxRecDepth 100000 in
set_option maxHeartbeats 6400000 in
theorem one14 (w : World) (h : TxR w lo b m I sn R none 0 0) (ab c : Nat) (hf : w.cell? ⟨ab, 0, none⟩ = some (.func (.func 14) #[] #[]))
    (P : Int → Int → World → Prop) (hF : Calls Tryz.prog 14 #[IV b] w fun e w' => ∃ r E, e = .returned (.int .i64 r) ∧ P r E w')
    (hP : ∀ r E w', P r E w' → ∃ lo' I' sn' R' D', TxR w' lo' b m I' sn' R' D' E 0) :
    Calls Tryz.prog 30 #[.pointer (some ⟨b, 0, none⟩), .slice (some ⟨ab, 0, none⟩) 1 c] w fun e w' => ∃ r E w2, P r E w2 ∧ e = .returned (.int .i64 (if E = 0 then r else E)) ∧ w' = (w2.setCell ⟨b, 5, none⟩ (.int .u32 1)).drew := by
  have c3 : w.cell? ⟨b, 3, none⟩ = some (.pointer (some ⟨I.ro, 0, none⟩)) := (h.c (i := 3) (by omega)).1
  have HMK := Lib.hid (redoMark w h.red)
  have HF := Lib.hid hF
  have HP := Lib.hid hP
  have hn : (binOp .eql 38 (.func (.func 14) #[] #[]) .nilFunc).run Tryz.prog w = .ok (.bool false) w := by kernel_rfl
  unfold IV at HF
  clear hF hP h
  go_enter_defers Tryz.func30, Tryz.ntmps30
  go_wp2
  refine wp_loop_rounds 2 ?_
  rw [rounds_succ]
  go_wp2_with (go_at_call 41; refine halt_ ?_)
  refine Halt_.go ?_
  refine HMK.out.mono ?_
  rintro e w1 ⟨rfl, rfl⟩
  clear HMK
  go_wp2_with (go_at_call 14; refine halt_ ?_)
  refine Halt_.go ?_
  refine HF.out.mono ?_
  rintro e w2 ⟨r, E, rfl, hp⟩
  obtain ⟨lo', I', sn', R', D', ht⟩ := HP.out r E w2 hp
  have d4 : w2.cell? ⟨b, 4, none⟩ = some (.int .i64 E) := (ht.c (i := 4) (by omega)).1
  obtain ⟨d5, z5⟩ := ht.c (i := 5) (by omega)
  have HSD := Lib.hid (boolStoreD ⟨b, 5, none⟩ _ .returning w2 d5 z5)
  have HPP := Lib.hid hp
  clear HF HP hn hf hp ht d5 z5
  by_cases hE : E = 0
  · subst hE
    by_cases hr : r = 390
    · subst hr
      go_wp2
      rw [rounds_succ]
      go_wp2
      refine leaves_cons (f := 40) (args := #[.pointer (some ⟨b, 5, none⟩), .bool true]) (by simp) (by simp [go_sem]) ?_
      refine (HSD.out).mono ?_
      rintro e' u' w3 ⟨rfl, rfl, hw3⟩
      exact ⟨_, results_tmp rfl _ _ _, _, _, _, HPP.out, by simp [*], hw3⟩
    · have hr1 : (r != 390) = true := by simpa using hr
      go_wp2
      refine leaves_cons (f := 40) (args := #[.pointer (some ⟨b, 5, none⟩), .bool true]) (by simp) (by simp [go_sem]) ?_
      refine (HSD.out).mono ?_
      rintro e' u' w3 ⟨rfl, rfl, hw3⟩
      exact ⟨_, results_tmp rfl _ _ _, _, _, _, HPP.out, by simp [*], hw3⟩
  · have hE1 : (E != 0) = true := by simpa using hE
    have hE2 : (E == 0) = false := by simpa using hE
    by_cases hr : r = 390
    · subst hr
      go_wp2
      refine leaves_cons (f := 40) (args := #[.pointer (some ⟨b, 5, none⟩), .bool true]) (by simp) (by simp [go_sem]) ?_
      refine (HSD.out).mono ?_
      rintro e' u' w3 ⟨rfl, rfl, hw3⟩
      exact ⟨_, results_tmp rfl _ _ _, _, _, _, HPP.out, by simp [*], hw3⟩
    · have hr1 : (r != 390) = true := by simpa using hr
      go_wp2
      refine leaves_cons (f := 40) (args := #[.pointer (some ⟨b, 5, none⟩), .bool true]) (by simp) (by simp [go_sem]) ?_
      refine (HSD.out).mono ?_
      rintro e' u' w3 ⟨rfl, rfl, hw3⟩
      exact ⟨_, results_tmp rfl _ _ _, _, _, _, HPP.out, by simp [*], hw3⟩
set_option maxRecDepth 100000 in
set_option maxHeartbeats 6400000 in
theorem one21 (w : World) (h : TxR w lo b m I sn R none 0 0) (p1 p2 : Nat) (ab c : Nat) (hf : w.cell? ⟨ab, 0, none⟩ = some (.func (.func 21) #[] #[.pointer (some ⟨p1, 0, none⟩), .pointer (some ⟨p2, 0, none⟩)]))
    (P : Int → Int → World → Prop) (hF : Calls Tryz.prog 21 #[IV b, .pointer (some ⟨p1, 0, none⟩), .pointer (some ⟨p2, 0, none⟩)] w fun e w' => ∃ r E, e = .returned (.int .i64 r) ∧ P r E w')
    (hP : ∀ r E w', P r E w' → ∃ lo' I' sn' R' D', TxR w' lo' b m I' sn' R' D' E 0) :
    Calls Tryz.prog 30 #[.pointer (some ⟨b, 0, none⟩), .slice (some ⟨ab, 0, none⟩) 1 c] w fun e w' => ∃ r E w2, P r E w2 ∧ e = .returned (.int .i64 (if E = 0 then r else E)) ∧ w' = (w2.setCell ⟨b, 5, none⟩ (.int .u32 1)).drew := by
  have c3 : w.cell? ⟨b, 3, none⟩ = some (.pointer (some ⟨I.ro, 0, none⟩)) := (h.c (i := 3) (by omega)).1
  have HMK := Lib.hid (redoMark w h.red)
  have HF := Lib.hid hF
  have HP := Lib.hid hP
  have hn : (binOp .eql 38 (.func (.func 21) #[] #[.pointer (some ⟨p1, 0, none⟩), .pointer (some ⟨p2, 0, none⟩)]) .nilFunc).run Tryz.prog w = .ok (.bool false) w := by kernel_rfl
  unfold IV at HF
  clear hF hP h
  go_enter_defers Tryz.func30, Tryz.ntmps30
  go_wp2
  refine wp_loop_rounds 2 ?_
  rw [rounds_succ]
  go_wp2_with (go_at_call 41; refine halt_ ?_)
  refine Halt_.go ?_
  refine HMK.out.mono ?_
  rintro e w1 ⟨rfl, rfl⟩
  clear HMK
  go_wp2_with (go_at_call 21; refine halt_ ?_)
  refine Halt_.go ?_
  refine HF.out.mono ?_
  rintro e w2 ⟨r, E, rfl, hp⟩
  obtain ⟨lo', I', sn', R', D', ht⟩ := HP.out r E w2 hp
  have d4 : w2.cell? ⟨b, 4, none⟩ = some (.int .i64 E) := (ht.c (i := 4) (by omega)).1
  obtain ⟨d5, z5⟩ := ht.c (i := 5) (by omega)
  have HSD := Lib.hid (boolStoreD ⟨b, 5, none⟩ _ .returning w2 d5 z5)
  have HPP := Lib.hid hp
  clear HF HP hn hf hp ht d5 z5
  by_cases hE : E = 0
  · subst hE
    by_cases hr : r = 390
    · subst hr
      go_wp2
      rw [rounds_succ]
      go_wp2
      refine leaves_cons (f := 40) (args := #[.pointer (some ⟨b, 5, none⟩), .bool true]) (by simp) (by simp [go_sem]) ?_
      refine (HSD.out).mono ?_
      rintro e' u' w3 ⟨rfl, rfl, hw3⟩
      exact ⟨_, results_tmp rfl _ _ _, _, _, _, HPP.out, by simp [*], hw3⟩
    · have hr1 : (r != 390) = true := by simpa using hr
      go_wp2
      refine leaves_cons (f := 40) (args := #[.pointer (some ⟨b, 5, none⟩), .bool true]) (by simp) (by simp [go_sem]) ?_
      refine (HSD.out).mono ?_
      rintro e' u' w3 ⟨rfl, rfl, hw3⟩
      exact ⟨_, results_tmp rfl _ _ _, _, _, _, HPP.out, by simp [*], hw3⟩
  · have hE1 : (E != 0) = true := by simpa using hE
    have hE2 : (E == 0) = false := by simpa using hE
    by_cases hr : r = 390
    · subst hr
      go_wp2
      refine leaves_cons (f := 40) (args := #[.pointer (some ⟨b, 5, none⟩), .bool true]) (by simp) (by simp [go_sem]) ?_
      refine (HSD.out).mono ?_
      rintro e' u' w3 ⟨rfl, rfl, hw3⟩
      exact ⟨_, results_tmp rfl _ _ _, _, _, _, HPP.out, by simp [*], hw3⟩
    · have hr1 : (r != 390) = true := by simpa using hr
      go_wp2
      refine leaves_cons (f := 40) (args := #[.pointer (some ⟨b, 5, none⟩), .bool true]) (by simp) (by simp [go_sem]) ?_
      refine (HSD.out).mono ?_
      rintro e' u' w3 ⟨rfl, rfl, hw3⟩
      exact ⟨_, results_tmp rfl _ _ _, _, _, _, HPP.out, by simp [*], hw3⟩
set_option maxRecDepth 100000 in
set_option maxHeartbeats 6400000 in
theorem one7 (w : World) (h : TxR w lo b m I sn R none 0 0) (p1 p2 p3 p4 p5 p6 p7 p8 p9 : Nat) (ab c : Nat) (hf : w.cell? ⟨ab, 0, none⟩ = some (.func (.func 7) #[] #[.pointer (some ⟨p1, 0, none⟩), .pointer (some ⟨p2, 0, none⟩), .pointer (some ⟨p3, 0, none⟩), .pointer (some ⟨p4, 0, none⟩), .pointer (some ⟨p5, 0, none⟩), .pointer (some ⟨p6, 0, none⟩), .pointer (some ⟨p7, 0, none⟩), .pointer (some ⟨p8, 0, none⟩), .pointer (some ⟨p9, 0, none⟩)]))
    (P : Int → Int → World → Prop) (hF : Calls Tryz.prog 7 #[IV b, .pointer (some ⟨p1, 0, none⟩), .pointer (some ⟨p2, 0, none⟩), .pointer (some ⟨p3, 0, none⟩), .pointer (some ⟨p4, 0, none⟩), .pointer (some ⟨p5, 0, none⟩), .pointer (some ⟨p6, 0, none⟩), .pointer (some ⟨p7, 0, none⟩), .pointer (some ⟨p8, 0, none⟩), .pointer (some ⟨p9, 0, none⟩)] w fun e w' => ∃ r E, e = .returned (.int .i64 r) ∧ P r E w')
    (hP : ∀ r E w', P r E w' → ∃ lo' I' sn' R' D', TxR w' lo' b m I' sn' R' D' E 0) :
    Calls Tryz.prog 30 #[.pointer (some ⟨b, 0, none⟩), .slice (some ⟨ab, 0, none⟩) 1 c] w fun e w' => ∃ r E w2, P r E w2 ∧ e = .returned (.int .i64 (if E = 0 then r else E)) ∧ w' = (w2.setCell ⟨b, 5, none⟩ (.int .u32 1)).drew := by
  have c3 : w.cell? ⟨b, 3, none⟩ = some (.pointer (some ⟨I.ro, 0, none⟩)) := (h.c (i := 3) (by omega)).1
  have HMK := Lib.hid (redoMark w h.red)
  have HF := Lib.hid hF
  have HP := Lib.hid hP
  have hn : (binOp .eql 38 (.func (.func 7) #[] #[.pointer (some ⟨p1, 0, none⟩), .pointer (some ⟨p2, 0, none⟩), .pointer (some ⟨p3, 0, none⟩), .pointer (some ⟨p4, 0, none⟩), .pointer (some ⟨p5, 0, none⟩), .pointer (some ⟨p6, 0, none⟩), .pointer (some ⟨p7, 0, none⟩), .pointer (some ⟨p8, 0, none⟩), .pointer (some ⟨p9, 0, none⟩)]) .nilFunc).run Tryz.prog w = .ok (.bool false) w := by kernel_rfl
  unfold IV at HF
  clear hF hP h
  go_enter_defers Tryz.func30, Tryz.ntmps30
  go_wp2
  refine wp_loop_rounds 2 ?_
  rw [rounds_succ]
  go_wp2_with (go_at_call 41; refine halt_ ?_)
  refine Halt_.go ?_
  refine HMK.out.mono ?_
  rintro e w1 ⟨rfl, rfl⟩
  clear HMK
  go_wp2_with (go_at_call 7; refine halt_ ?_)
  refine Halt_.go ?_
  refine HF.out.mono ?_
  rintro e w2 ⟨r, E, rfl, hp⟩
  obtain ⟨lo', I', sn', R', D', ht⟩ := HP.out r E w2 hp
  have d4 : w2.cell? ⟨b, 4, none⟩ = some (.int .i64 E) := (ht.c (i := 4) (by omega)).1
  obtain ⟨d5, z5⟩ := ht.c (i := 5) (by omega)
  have HSD := Lib.hid (boolStoreD ⟨b, 5, none⟩ _ .returning w2 d5 z5)
  have HPP := Lib.hid hp
  clear HF HP hn hf hp ht d5 z5
  by_cases hE : E = 0
  · subst hE
    by_cases hr : r = 390
    · subst hr
      go_wp2
      rw [rounds_succ]
      go_wp2
      refine leaves_cons (f := 40) (args := #[.pointer (some ⟨b, 5, none⟩), .bool true]) (by simp) (by simp [go_sem]) ?_
      refine (HSD.out).mono ?_
      rintro e' u' w3 ⟨rfl, rfl, hw3⟩
      exact ⟨_, results_tmp rfl _ _ _, _, _, _, HPP.out, by simp [*], hw3⟩
    · have hr1 : (r != 390) = true := by simpa using hr
      go_wp2
      refine leaves_cons (f := 40) (args := #[.pointer (some ⟨b, 5, none⟩), .bool true]) (by simp) (by simp [go_sem]) ?_
      refine (HSD.out).mono ?_
      rintro e' u' w3 ⟨rfl, rfl, hw3⟩
      exact ⟨_, results_tmp rfl _ _ _, _, _, _, HPP.out, by simp [*], hw3⟩
  · have hE1 : (E != 0) = true := by simpa using hE
    have hE2 : (E == 0) = false := by simpa using hE
    by_cases hr : r = 390
    · subst hr
      go_wp2
      refine leaves_cons (f := 40) (args := #[.pointer (some ⟨b, 5, none⟩), .bool true]) (by simp) (by simp [go_sem]) ?_
      refine (HSD.out).mono ?_
      rintro e' u' w3 ⟨rfl, rfl, hw3⟩
      exact ⟨_, results_tmp rfl _ _ _, _, _, _, HPP.out, by simp [*], hw3⟩
    · have hr1 : (r != 390) = true := by simpa using hr
      go_wp2
      refine leaves_cons (f := 40) (args := #[.pointer (some ⟨b, 5, none⟩), .bool true]) (by simp) (by simp [go_sem]) ?_
      refine (HSD.out).mono ?_
      rintro e' u' w3 ⟨rfl, rfl, hw3⟩
      exact ⟨_, results_tmp rfl _ _ _, _, _, _, HPP.out, by simp [*], hw3⟩
end
end Go.Proofs.YtomcobcmjocapaaGreatDoor
