/- FreeNested, walked. -/
import Derived.Test.YtomcobcmjocapaaGreatDoorNN
namespace Go.Proofs.YtomcobcmjocapaaGreatDoor
open Go.RowKit Go.MuLone
theorem wk_all (ws : List Int) : wk ws.length ws ws.length = ws := by simp [wk]
def xS (B : Option Addr) (ng d : Nat) (xa : Nat) (xw : Int) (more : Bool) (xp xh : Int) : Array Value := #[.slice B ng d, .int .u64 xa, .int .u64 xw, .bool more, .int .u64 xp, .int .i64 xh]
set_option maxRecDepth 100000 in
set_option maxHeartbeats 12800000 in
/-- too much input, or none: works -/
theorem free_big (w : World) (A B : Option Addr) (c d xa : Nat) (first : List Int) (gets : List Nat) (xw : Int) (more : Bool) (xp xh : Int) (hd : Deb w) (h1 : 1 < w.heap.size)
    (hbig : first.length = 0 ∨ 20 < first.length ∨ 20 < gets.length) :
    Calls Tryz.prog 3 #[.slice A first.length c, .agg #[.slice B gets.length d, .int .u64 xa, .int .u64 xw, .bool more, .int .u64 xp, .int .i64 xh]] w fun e w' => e = .returned (.bool true) ∧ Below w.heap.size w w' := by
  obtain ⟨w1, hw1⟩ : ∃ w1, w1 = (w.alloc (.cells #[.slice A first.length c] 22)).alloc (.cells #[.slice B gets.length d, .int .u64 xa, .int .u64 xw, .bool more, .int .u64 xp, .int .i64 xh] 25) := ⟨_, rfl⟩
  have hb1 : Below w.heap.size w w1 := by rw [hw1]; exact ((Below.refl _ w).alloc (Nat.le_refl _) _).alloc (by simp) _
  have HWK := Lib.hid (works w1 (hd.below hb1 h1) (by have := hb1.size; omega))
  have HW1 := Lib.hid hw1
  have HB1 := Lib.hid hb1
  clear hw1 hb1 hd
  by_cases e0 : first.length = 0
  · rw [e0] at HW1 ⊢
    clear hbig
    go_enter Tryz.func3, Tryz.ntmps3
    go_wp2_with (go_at_call 4; refine halt_ ?_)
    refine Halt_.go ?_
    rw [← HW1.out]
    refine HWK.out.mono ?_
    rintro e w2 ⟨rfl, hb2⟩
    have HB2 := Lib.hid (HB1.out.trans (hb2.mono HB1.out.size))
    clear hb2 HWK HB1 HW1
    go_wp2
    go_ret
    exact ⟨rfl, HB2.out⟩
  · have b0 : ((first.length : Int) == 0) = false := by rw [beq_eq_false_iff_ne]; omega
    by_cases e1 : 20 < first.length
    · have i1 : (20 : Int) < (first.length : Int) := by omega
      clear hbig e0
      go_enter Tryz.func3, Tryz.ntmps3
      go_wp2_with (go_at_call 4; refine halt_ ?_)
      refine Halt_.go ?_
      rw [← HW1.out]
      refine HWK.out.mono ?_
      rintro e w2 ⟨rfl, hb2⟩
      have HB2 := Lib.hid (HB1.out.trans (hb2.mono HB1.out.size))
      clear hb2 HWK HB1 HW1
      go_wp2
      go_ret
      exact ⟨rfl, HB2.out⟩
    · have i1 : ¬ (20 : Int) < (first.length : Int) := by omega
      have i2 : (20 : Int) < (gets.length : Int) := by omega
      clear hbig e0 e1
      go_enter Tryz.func3, Tryz.ntmps3
      go_wp2_with (go_at_call 4; refine halt_ ?_)
      refine Halt_.go ?_
      rw [← HW1.out]
      refine HWK.out.mono ?_
      rintro e w2 ⟨rfl, hb2⟩
      have HB2 := Lib.hid (HB1.out.trans (hb2.mono HB1.out.size))
      clear hb2 HWK HB1 HW1
      go_wp2
      go_ret
      exact ⟨rfl, HB2.out⟩
end Go.Proofs.YtomcobcmjocapaaGreatDoor
