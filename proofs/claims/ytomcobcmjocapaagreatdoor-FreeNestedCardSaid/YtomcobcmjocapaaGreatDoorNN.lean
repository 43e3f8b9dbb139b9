/- Atomically, of FreeNested's block. -/
import Derived.Test.YtomcobcmjocapaaGreatDoorMM
namespace Go.Proofs.YtomcobcmjocapaaGreatDoor
open Go.RowKit Go.MuLone
section
variable {X : NX} {cb g sc ch : Nat}
set_option maxRecDepth 100000 in
set_option maxHeartbeats 12800000 in
theorem atomically7 (w : World) (hKs : X.K + 6 = w.heap.size) (he : EnvR (w.alloc (.cells #[.func (.func 7) #[] #[.pointer (some ⟨X.K + 4, 0, none⟩), .pointer (some ⟨X.H + 1, 0, none⟩), .pointer (some ⟨X.H + 2, 0, none⟩), .pointer (some ⟨X.H, 0, none⟩), .pointer (some ⟨X.K + 1, 0, none⟩), .pointer (some ⟨X.K + 5, 0, none⟩), .pointer (some ⟨X.K, 0, none⟩), .pointer (some ⟨X.K + 3, 0, none⟩), .pointer (some ⟨X.K + 2, 0, none⟩)]] 38)) X 0 true) (hz : X.z = .func (.func 7) #[] #[.pointer (some ⟨X.K + 4, 0, none⟩), .pointer (some ⟨X.H + 1, 0, none⟩), .pointer (some ⟨X.H + 2, 0, none⟩), .pointer (some ⟨X.H, 0, none⟩), .pointer (some ⟨X.K + 1, 0, none⟩), .pointer (some ⟨X.K + 5, 0, none⟩), .pointer (some ⟨X.K, 0, none⟩), .pointer (some ⟨X.K + 3, 0, none⟩), .pointer (some ⟨X.K + 2, 0, none⟩)]) (hm : MemR w (X.H + 3) X.m cb g sc ch X.first 0 0 0 false) (hl : Lies X.K X.m cb g sc) (hd : Deb w) (h1 : 1 < X.H)
    (hn0 : 0 < X.first.length ∧ X.first.length ≤ 20) (ha : X.a < X.first.length) (hg : X.gets.length ≤ 20) (hchg : X.chg = othB (gR X X.first X.gets.length) (X.first.set X.a X.xw)) (hh1 : X.how = 1 → X.chg = true) :
    Calls Tryz.prog 6 #[.pointer (some ⟨X.m, 0, none⟩), .func (.func 7) #[] #[.pointer (some ⟨X.K + 4, 0, none⟩), .pointer (some ⟨X.H + 1, 0, none⟩), .pointer (some ⟨X.H + 2, 0, none⟩), .pointer (some ⟨X.H, 0, none⟩), .pointer (some ⟨X.K + 1, 0, none⟩), .pointer (some ⟨X.K + 5, 0, none⟩), .pointer (some ⟨X.K, 0, none⟩), .pointer (some ⟨X.K + 3, 0, none⟩), .pointer (some ⟨X.K + 2, 0, none⟩)]] w (EQ w X cb g sc) := by
  have HN := Lib.hid (memNone w hm)
  have hn : (binOp .eql 38 (.func (.func 7) #[] #[.pointer (some ⟨X.K + 4, 0, none⟩), .pointer (some ⟨X.H + 1, 0, none⟩), .pointer (some ⟨X.H + 2, 0, none⟩), .pointer (some ⟨X.H, 0, none⟩), .pointer (some ⟨X.K + 1, 0, none⟩), .pointer (some ⟨X.K + 5, 0, none⟩), .pointer (some ⟨X.K, 0, none⟩), .pointer (some ⟨X.K + 3, 0, none⟩), .pointer (some ⟨X.K + 2, 0, none⟩)]) .nilFunc).run Tryz.prog w = .ok (.bool false) w := by kernel_rfl
  obtain ⟨wz, hwz⟩ : ∃ wz, wz = w.alloc (.cells #[.func (.func 7) #[] #[.pointer (some ⟨X.K + 4, 0, none⟩), .pointer (some ⟨X.H + 1, 0, none⟩), .pointer (some ⟨X.H + 2, 0, none⟩), .pointer (some ⟨X.H, 0, none⟩), .pointer (some ⟨X.K + 1, 0, none⟩), .pointer (some ⟨X.K + 5, 0, none⟩), .pointer (some ⟨X.K, 0, none⟩), .pointer (some ⟨X.K + 3, 0, none⟩), .pointer (some ⟨X.K + 2, 0, none⟩)]] 38) := ⟨_, rfl⟩
  rw [← hwz] at he
  have hbz : Below w.heap.size w wz := by rw [hwz]; exact (Below.refl _ w).alloc (Nat.le_refl _) _
  have hk := he.hk
  have HE := Lib.hid (either7 wz he hz (hm.ex (Ex.of_below hbz) (S := fun _ => False) id id id id id) hl (hd.below hbz (by omega)) h1 hn0 ha hg hchg hh1 1)
  have HWZ := Lib.hid hwz
  have HBZ := Lib.hid (hbz.mono (show X.H ≤ w.heap.size by omega))
  clear hm hwz hbz he hz
  go_enter Tryz.func6, Tryz.ntmps6
  go_wp2_with (go_at_call 19; refine halt_ ?_)
  refine Halt_.go ?_
  refine HN.out.mono ?_
  rintro e w0 ⟨rfl, rfl⟩
  clear HN
  go_wp2_with (go_at_call 15; refine halt_ ?_)
  refine Halt_.go ?_
  rw [← HWZ.out]
  rw [hKs] at HE
  refine HE.out.mono ?_
  rintro e w4 ⟨hb4, ch', h4⟩
  have HB4 := Lib.hid (HBZ.out.trans hb4)
  clear hb4 HE hn HBZ HWZ
  rcases h4 with ⟨q1, rfl, q2, q3⟩ | ⟨q1, rfl, q2, q3⟩
  · have HQ := Lib.hid (And.intro q1 (And.intro q2 q3))
    clear q1 q2 q3
    go_wp2
    go_ret2
    exact ⟨HB4.out, ch', .inl ⟨HQ.out.1, rfl, HQ.out.2.1, HQ.out.2.2⟩⟩
  · have HQ := Lib.hid (And.intro q1 (And.intro q2 q3))
    clear q1 q2 q3
    go_wp2
    go_ret2
    exact ⟨HB4.out, ch', .inr ⟨HQ.out.1, rfl, HQ.out.2.1, HQ.out.2.2⟩⟩
end
end Go.Proofs.YtomcobcmjocapaaGreatDoor
