/- Walk: GraphKeeps. -/
import Derived.Test.YtjifpjfinffamaaWW
import Derived.Test.YtjifpjfinffamaaK2
import Derived.Test.YtjifpjfinffamaaW2
namespace Go.Proofs.Ytjifpjfinffamaa
open Go.RowKit

set_option linter.unusedSimpArgs false in
set_option maxRecDepth 100000 in
set_option maxHeartbeats 3200000 in
theorem graphKeeps_any (n : Int) (A3 : Option Addr) (cap3 : Nat) (xs : List Int) (A : Option Addr) (cap : Nat) (l : List E) (w : World) (hl : l.length * 24 ≤ 140737488351232) (hxl : xs.length * 8 ≤ 140737488351232) (hc : RE w w.heap.size A l) (hx : RK .i64 w w.heap.size A3 xs) :
    Calls Try.prog 5 #[.int .i64 n, .slice A3 xs.length cap3, .slice A l.length cap] w fun e w' => e = .returned (.bool true) ∧ Below w.heap.size w w' := by
  have HC := Lib.hid hc
  have HX := Lib.hid hx
  clear hc hx
  go_enter Try.func5, Try.ntmps5
  go_wp2_with (go_at_call 23; refine halt_ ?_)
  refine Halt_.go ?_
  refine (lend_any A cap l w hl HC.out).mono ?_
  rintro e w1 ⟨g, c1, rfl, hL, hb1⟩
  have HB1 := Lib.hid hb1
  have HL1 := Lib.hid hL
  have HC1 := Lib.hid ((HC.out.below hb1).more hb1.size)
  have HX1 := Lib.hid ((HX.out.below hb1).more hb1.size)
  clear hb1 hL HC HX
  go_wp2_with (go_at_call 31; refine halt_ ?_)
  refine Halt_.go ?_
  refine (lendInts_any A3 cap3 xs w1 hxl HX1.out).mono ?_
  rintro e w2 ⟨g2, c2, rfl, hL, hb2⟩
  have HB2 := Lib.hid (HB1.out.trans (hb2.mono HB1.out.size))
  have HL2 := Lib.hid (HL1.out.below HL1.out.2.1 hb2)
  have HI2 := Lib.hid hL
  have HC2 := Lib.hid ((HC1.out.below hb2).more hb2.size)
  have HX2 := Lib.hid ((HX1.out.below hb2).more hb2.size)
  clear hb2 hL HC1 HX1 HL1 HB1
  go_wp2_with (go_at_call 32; refine halt_ ?_)
  refine Halt_.go ?_
  refine (keeps_any n (some ⟨g2, 0, none⟩) c2 xs (some ⟨g, 0, none⟩) c1 l w2 hl HL2.out.reads HI2.out.reads).mono ?_
  rintro e w3 ⟨b, rfl, hk, hb3⟩
  have HK := Lib.hid hk
  have HB3 := Lib.hid (HB2.out.trans (hb3.mono HB2.out.size))
  have HL3 := Lib.hid (HL2.out.below HL2.out.2.1 hb3)
  have HI3 := Lib.hid (HI2.out.below HI2.out.2.1 hb3)
  have HC3 := Lib.hid ((HC2.out.below hb3).more hb3.size)
  have HX3 := Lib.hid ((HX2.out.below hb3).more hb3.size)
  clear hb3 hk HC2 HX2 HL2 HB2 HI2
  go_wp2_with (go_at_call 33; refine halt_ ?_)
  refine Halt_.go ?_
  refine (refKeeps_any n A3 cap3 xs A cap l w3 hl HC3.out HX3.out).mono ?_
  rintro e w4 ⟨b', rfl, hk, hb4⟩
  obtain rfl := hk.unique HK.out
  have HB4 := Lib.hid (HB3.out.trans (hb4.mono HB3.out.size))
  have HL4 := Lib.hid (HL3.out.below HL3.out.2.1 hb4)
  have HI4 := Lib.hid (HI3.out.below HI3.out.2.1 hb4)
  have HC4 := Lib.hid ((HC3.out.below hb4).more hb4.size)
  have HX4 := Lib.hid ((HX3.out.below hb4).more hb4.size)
  have hbb : (b' == b') = true := by cases b' <;> rfl
  clear hb4 hk HC3 HX3 HL3 HB3 HI3 HK
  go_wp2_with (go_at_call 28; refine halt_ ?_)
  refine Halt_.go ?_
  refine (kept_any A g c1 cap _ l w4 hl HL4.out HC4.out).mono ?_
  rintro e w5 ⟨rfl, m, rfl⟩
  have hb5 : Below w4.heap.size w4 (w4.drewN m) := bdrewN (Below.refl _ _) _
  have HB5 := Lib.hid (HB4.out.trans (hb5.mono HB4.out.size))
  have HI5 := Lib.hid (HI4.out.below HI4.out.2.1 hb5)
  have HX5 := Lib.hid ((HX4.out.below hb5).more hb5.size)
  clear hb5 HC4 HX4 HL4 HB4 HI4
  go_wp2_with (go_at_call 34; refine halt_ ?_)
  refine Halt_.go ?_
  refine (keptInts_any A3 g2 c2 cap3 _ xs _ hxl HI5.out HX5.out).mono ?_
  rintro e w6 ⟨rfl, m2, hw6⟩
  have hb6 : Below (w4.drewN m).heap.size (w4.drewN m) w6 := by rw [hw6]; exact bdrewN (Below.refl _ _) _
  have HB6 := Lib.hid (HB5.out.trans (hb6.mono HB5.out.size))
  clear hb6 HX5 HI5 HB5 hw6
  go_wp2_with (go_at_call 30; refine halt_ ?_)
  refine Halt_.go ?_
  refine (works_any _).mono ?_
  rintro e w7 ⟨rfl, hb7⟩
  have HB7 := Lib.hid (HB6.out.trans (hb7.mono HB6.out.size))
  clear hb7 HB6
  go_wp2
  go_ret
  exact ⟨rfl, HB7.out⟩
end Go.Proofs.Ytjifpjfinffamaa
