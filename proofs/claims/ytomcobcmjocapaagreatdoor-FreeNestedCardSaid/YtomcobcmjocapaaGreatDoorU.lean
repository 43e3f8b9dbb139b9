/- wait. -/
import Derived.Test.YtomcobcmjocapaaGreatDoorT
namespace Go.Proofs.YtomcobcmjocapaaGreatDoor
open Go.RowKit Go.MuLone
section
variable {lo b m : Nat} {I : TI} {sn e ov : Int} {R : List (Int × Int)} {D : Option (Int × Int)}
variable {lo0 cb g sc ch : Nat} {ws : List Int} {ck st od : Int} {sb : Bool}
theorem TxR.exM {w : World} (h : TxR w lo b m I sn R D e ov) {w' : World} (hm : m < lo) (hx : Ex w w' (fun k => k = m)) : TxR w' lo b m I sn R D e ov := h.kept fun k hk => hx.block k (h.lt hk).2 fun e2 => by have := (h.lt hk).1; omega
set_option maxRecDepth 100000 in
set_option maxHeartbeats 6400000 in
theorem txWait (w : World) (hm : MemR w lo0 m cb g sc ch ws ck st od sb) (h : TxR w lo b m I sn R D e ov) (hl : Lies lo m cb g sc) (hwl : ws.length ≤ 65536) (hRl : R.length < 1000) (hR : ∀ p ∈ R, ∃ a : Nat, p.1 = a ∧ a < ws.length) (hst : st = 1 ∨ st = 0 ∧ othB R ws = true) :
    Calls Tryz.prog 32 #[.pointer (some ⟨b, 0, none⟩)] w fun e' w' => e' = .returned (.bool (st == 0)) ∧ MemR w' lo0 m cb g sc ch ws ck st od sb ∧ Ex w w' (fun k => k = m) := by
  have c0 : w.cell? ⟨b, 0, none⟩ = some (.pointer (some ⟨m, 0, none⟩)) := (h.c (i := 0) (by omega)).1
  obtain ⟨m7, z7⟩ := hm.c (i := 7) (by omega)
  have HA := Lib.hid (i64Add (y := 1) (s := 1) w m7 z7 rfl)
  have HM := Lib.hid hm
  have HT := Lib.hid h
  obtain ⟨l1, l2, l3, l4⟩ := hl
  clear hm h m7 z7
  go_enter_defers Tryz.func32, Tryz.ntmps32
  go_wp2_with (go_at_call 50; refine halt_ ?_)
  refine Halt_.go ?_
  refine HA.out.mono ?_
  rintro e' w1 ⟨rfl, hw1⟩
  have hM1 : MemP w1 lo0 m cb g sc ch ws ck st od sb 1 0 false := by rw [hw1]; exact HM.out.toP.setWt 1
  have hX1 : Ex w w1 (fun k => k = m) := by rw [hw1]; exact (Ex.refl _ _).set _ _ fun _ => rfl
  obtain ⟨m8, z8⟩ := hM1.c (i := 8) (by omega)
  have HLK := Lib.hid (lock_free muLib ⟨m, 8, none⟩ w1 m8 z8)
  have HM1 := Lib.hid hM1
  have HX1 := Lib.hid hX1
  clear hw1 hM1 hX1 m8 z8 HA c0
  go_wp2
  refine wp_loop_once ?_
  go_wp2_with (go_at_call 48; refine halt_ ?_)
  refine Halt_.go ?_
  refine HLK.out.mono ?_
  rintro e' w2 ⟨rfl, hw2⟩
  have hM2 : MemP w2 lo0 m cb g sc ch ws ck st od sb 1 1 false := by rw [hw2]; exact HM1.out.setMu 1
  have hX2 : Ex w w2 (fun k => k = m) := by rw [hw2]; exact HX1.out.set _ _ fun _ => rfl
  obtain ⟨m8, z8⟩ := hM2.c (i := 8) (by omega)
  have m10 : w2.cell? ⟨m, 10, none⟩ = some (.chan (some ch)) := (hM2.c (i := 10) (by omega)).1
  have HUL := Lib.hid (unlock_held muLib ⟨m, 8, none⟩ w2 m8 z8)
  have HM2 := Lib.hid hM2
  have HX2 := Lib.hid hX2
  clear hw2 hM2 hX2 m8 z8 HLK HM1 HX1
  go_wp2_with (go_at_call 49; refine halt_ ?_)
  refine Halt_.go ?_
  refine HUL.out.mono ?_
  rintro e' w3 ⟨rfl, hw3⟩
  have hM3 : MemP w3 lo0 m cb g sc ch ws ck st od sb 1 0 false := by rw [hw3]; exact HM2.out.setMu 0
  have hX3 : Ex w w3 (fun k => k = m) := by rw [hw3]; exact HX2.out.set _ _ fun _ => rfl
  have hT3 := HT.out.exM l1 hX3
  have HIS := Lib.hid (isSet w3 (hM3.c (i := 2) (by omega)).1)
  have HOT := Lib.hid (otherwise_any w3 hM3.cel (hM3.c (i := 0) (by omega)).1 (hT3.c (i := 0) (by omega)).1 (hT3.c (i := 2) (by omega)).1 hT3.rds hR hwl (by omega))
  have HM3 := Lib.hid hM3
  have HX3 := Lib.hid hX3
  clear hw3 hM3 hX3 hT3 HUL HM2 HX2 m10 hR
  go_wp2_with (go_at_call 28; refine halt_ ?_)
  refine Halt_.go ?_
  refine HIS.out.mono ?_
  rintro e' w4 ⟨rfl, rfl⟩
  rcases hst with rfl | ⟨rfl, hoth⟩
  · obtain ⟨m7, z7⟩ := HM3.out.c (i := 7) (by omega)
    have HAD := Lib.hid (i64AddD (y := -1) (s := 0) .returning w4 m7 z7 rfl)
    go_wp2
    refine leaves_cons (f := 50) (args := #[.pointer (some ⟨m, 7, none⟩), .int .i64 (-1)]) (by simp) (by simp [go_sem]) ?_
    refine (HAD.out).mono ?_
    rintro e' u' w5 ⟨rfl, rfl, hw5⟩
    have hM5 : MemP w5 lo0 m cb g sc ch ws ck 1 od sb 0 0 false := by rw [hw5]; exact HM3.out.setWt 0
    have hX5 : Ex w w5 (fun k => k = m) := by rw [hw5]; exact HX3.out.set _ _ fun _ => rfl
    exact ⟨_, results_tmp rfl _ _ _, rfl, hM5.toR, hX5⟩
  · rw [hoth] at HOT
    have HO := Lib.hid hoth
    clear hoth
    go_wp2_with (go_at_call 51; refine halt_ ?_)
    refine Halt_.go ?_
    refine HOT.out.mono ?_
    rintro e' w5 ⟨rfl, hb5⟩
    have hM5 := HM3.out.below hb5
    have hX5 : Ex w w5 (fun k => k = m) := HX3.out.trans (Ex.of_below (S := fun _ => False) hb5) fun k _ h => h.elim
    obtain ⟨m7, z7⟩ := hM5.c (i := 7) (by omega)
    have HAD := Lib.hid (i64AddD (y := -1) (s := 0) .returning w5 m7 z7 rfl)
    have HM5 := Lib.hid hM5
    have HX5 := Lib.hid hX5
    clear hb5 hM5 hX5 m7 z7 HOT HM3 HX3
    go_wp2
    refine leaves_cons (f := 50) (args := #[.pointer (some ⟨m, 7, none⟩), .int .i64 (-1)]) (by simp) (by simp [go_sem]) ?_
    refine (HAD.out).mono ?_
    rintro e' u' w6 ⟨rfl, rfl, hw6⟩
    have hM6 : MemP w6 lo0 m cb g sc ch ws ck 0 od sb 0 0 false := by rw [hw6]; exact HM5.out.setWt 0
    have hX6 : Ex w w6 (fun k => k = m) := by rw [hw6]; exact HX5.out.set _ _ fun _ => rfl
    exact ⟨_, results_tmp rfl _ _ _, rfl, hM6.toR, hX6⟩
end
end Go.Proofs.YtomcobcmjocapaaGreatDoor
