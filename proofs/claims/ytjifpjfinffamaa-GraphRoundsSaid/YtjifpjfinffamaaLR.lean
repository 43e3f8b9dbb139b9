/- Walk: GraphRounds. -/
import Derived.Test.YtjifpjfinffamaaWW
import Derived.Test.YtjifpjfinffamaaW2
import Derived.Test.YtjifpjfinffamaaW8
import Derived.Test.YtjifpjfinffamaaA3
namespace Go.Proofs.Ytjifpjfinffamaa
open Go.RowKit

theorem apart_two (A1 A2 : Option Addr) (c1 c2 cm : Nat) (xs ys : List Int) (b0 b1 : Nat) (w : World) (h1 : OwnI w b0 A1 c1 xs) (h2 : OwnI w b1 A2 c2 ys)
    (hl1 : ∀ g, (Value.slice A1 xs.length c1).ownBlock = some g → g < b1) (hb : b0 ≤ b1) (s1 : xs.length ≤ 65536) (s2 : ys.length ≤ 65536) (h0 : b1 ≤ w.heap.size) :
    Calls Try.prog 29 #[.slice (some ⟨w.heap.size, 0, none⟩) 2 cm] (w.alloc (.cells #[.slice A1 xs.length c1, .slice A2 ys.length c2] 31)) fun e w' => e = .returned (.bool true) ∧ Below b0 w w' := by
  have hl2 := fun g hg => (h2.lt g hg).2
  refine apart_row 2 (by decide) (fun j => if j = 0 then A1 else A2) (fun j => if j = 0 then c1 else c2) (fun j => if j = 0 then xs else ys) (fun j => if j = 0 then b0 else if j = 1 then b1 else w.heap.size) _ cm w ?_ ?_ ?_ ?_ ?_ (by simpa using Nat.le_trans hb h0)
  · intro j hj
    match j, hj with
    | 0, _ => exact h1
    | 1, _ => exact h2
  · intro j hj
    match j, hj with
    | 0, _ => exact hl1
    | 1, _ => exact hl2
  · intro i j hij
    match i, j with
    | 0, 0 => exact Nat.le_refl _
    | 0, 1 => exact hb
    | 0, j + 2 => exact Nat.le_trans hb h0
    | 1, 0 => omega
    | 1, 1 => exact Nat.le_refl _
    | 1, j + 2 => exact h0
    | i + 2, 0 => omega
    | i + 2, 1 => omega
    | i + 2, j + 2 => exact Nat.le_refl _
  · intro j hj
    match j, hj with
    | 0, _ => exact Nat.le_trans s1 (by decide)
    | 1, _ => exact Nat.le_trans s2 (by decide)
  · intro j hj
    match j, hj with
    | 0, _ => rfl
    | 1, _ => rfl

set_option linter.unusedSimpArgs false in
set_option maxRecDepth 100000 in
set_option maxHeartbeats 3200000 in
theorem graphRounds_any (n : Int) (A : Option Addr) (cap : Nat) (l : List E) (w : World) (hl : l.length * 24 ≤ 140737488351232) (hc : RE w w.heap.size A l) :
    Calls Try.prog 4 #[.int .i64 n, .slice A l.length cap] w fun e w' => e = .returned (.bool true) ∧ Below w.heap.size w w' := by
  have HC := Lib.hid hc
  clear hc
  go_enter Try.func4, Try.ntmps4
  go_wp2_with (go_at_call 23; refine halt_ ?_)
  refine Halt_.go ?_
  refine (lend_any A cap l w hl HC.out).mono ?_
  rintro e w1 ⟨g, c1, rfl, hL, hb1⟩
  have HB1 := Lib.hid hb1
  have HL1 := Lib.hid hL
  have HC1 := Lib.hid ((HC.out.below hb1).more hb1.size)
  have HZ01 := Lib.hid hb1.size
  clear hb1 hL
  go_wp2_with (go_at_call 24; refine halt_ ?_)
  refine Halt_.go ?_
  refine (round_any n (some ⟨g, 0, none⟩) c1 l w1 hl HL1.out.reads).mono ?_
  rintro e w2 ⟨A1, k1, xs, ok, er, rfl, hS, hown1, hb2⟩
  have HS := Lib.hid hS
  have HB2 := Lib.hid (HB1.out.trans (hb2.mono HB1.out.size))
  have HL2 := Lib.hid (HL1.out.below HL1.out.2.1 hb2)
  have HC2 := Lib.hid ((HC1.out.below hb2).more hb2.size)
  have HO12 := Lib.hid hown1
  have HG := Lib.hid HL1.out.2.1
  have HT1 := Lib.hid (fun gg hg => (hown1.lt gg hg).2)
  have HZ12 := Lib.hid hb2.size
  clear hS hb2 hown1 HL1 HC1
  go_wp2_with (go_at_call 24; refine halt_ ?_)
  refine Halt_.go ?_
  refine (round_any n (some ⟨g, 0, none⟩) c1 l w2 hl HL2.out.reads).mono ?_
  rintro e w3 ⟨A2, k2, ys, ok2, er2, rfl, hS, hown2, hb3⟩
  obtain ⟨rfl, rfl, rfl⟩ := hS.unique HS.out
  have HB3 := Lib.hid (HB2.out.trans (hb3.mono HB2.out.size))
  have HL3 := Lib.hid (HL2.out.below HL2.out.2.1 hb3)
  have HC3 := Lib.hid ((HC2.out.below hb3).more hb3.size)
  have HO13 := Lib.hid (HO12.out.below (Nat.le_refl _) hb3)
  have HO23 := Lib.hid hown2
  have HZ23 := Lib.hid hb3.size
  clear hS hb3 hown2 HL2 HC2 HO12 HB1 HB2
  go_wp2_with (go_at_call 25; refine halt_ ?_)
  refine Halt_.go ?_
  refine (refRound_any n A cap l w3 hl HC3.out).mono ?_
  rintro e w4 ⟨A3, k3, zs, ok3, er3, rfl, hS, hown3, hb4⟩
  obtain ⟨rfl, rfl, rfl⟩ := hS.unique HS.out
  have HB4 := Lib.hid (HB3.out.trans (hb4.mono HB3.out.size))
  have HL4 := Lib.hid (HL3.out.below HL3.out.2.1 hb4)
  have HC4 := Lib.hid ((HC3.out.below hb4).more hb4.size)
  have HO14 := Lib.hid (HO13.out.below (Nat.le_refl _) hb4)
  have HO24 := Lib.hid (HO23.out.below (Nat.le_refl _) hb4)
  have HO34 := Lib.hid hown3
  have HZ34 := Lib.hid hb4.size
  have HSH := Lib.hid HS.out.short
  have q1 := intsB_self zs
  have q2 : (ok3 == ok3) = true := by cases ok3 <;> rfl
  have q3 : (er3 == er3) = true := by simp
  clear hS hb4 hown3 HL3 HC3 HO13 HO23 HB3
  go_wp2_with (go_at_call 26; refine halt_ ?_)
  refine Halt_.go ?_
  refine (ints_any A1 A3 k1 k3 zs zs w4 HO14.out.reads HO34.out.reads (by have := HSH.out; omega)).mono ?_
  rintro e w5 ⟨rfl, m1, rfl⟩
  rw [q1]
  go_wp2_with (go_at_call 26; refine halt_ ?_)
  refine Halt_.go ?_
  have hb5 : Below w4.heap.size w4 (w4.drewN m1) := bdrewN (Below.refl _ _) _
  have HO25 := Lib.hid (HO24.out.below (Nat.le_refl _) hb5)
  have HO35 := Lib.hid (HO34.out.below (Nat.le_refl _) hb5)
  have HO15 := Lib.hid (HO14.out.below (Nat.le_refl _) hb5)
  have HB5 := Lib.hid (HB4.out.trans (hb5.mono HB4.out.size))
  have HL5 := Lib.hid (HL4.out.below HL4.out.2.1 hb5)
  have HC5 := Lib.hid ((HC4.out.below hb5).more hb5.size)
  have HZ45 := Lib.hid hb5.size
  clear hb5 HO24 HO34 HO14 HB4 HL4 HC4
  generalize w4.drewN m1 = w5 at *
  refine (ints_any A2 A3 k2 k3 zs zs w5 HO25.out.reads HO35.out.reads (by have := HSH.out; omega)).mono ?_
  rintro e w6 ⟨rfl, m2, rfl⟩
  rw [q1]
  have hb6 : Below w5.heap.size w5 (w5.drewN m2) := bdrewN (Below.refl _ _) _
  have HO26 := Lib.hid (HO25.out.below (Nat.le_refl _) hb6)
  have HO16 := Lib.hid (HO15.out.below (Nat.le_refl _) hb6)
  have HB6 := Lib.hid (HB5.out.trans (hb6.mono HB5.out.size))
  have HL6 := Lib.hid (HL5.out.below HL5.out.2.1 hb6)
  have HC6 := Lib.hid ((HC5.out.below hb6).more hb6.size)
  have HZ56 := Lib.hid hb6.size
  clear hb6 HO25 HO15 HO35 HB5 HL5 HC5
  generalize w5.drewN m2 = w6 at *
  go_wp2_with (first
    | (go_at_call 27; refine (num_any _ _).mono ?_; rintro e wx ⟨rfl, rfl⟩)
    | (go_at_call 28; refine halt_ ?_))
  refine Halt_.go ?_
  refine (kept_any A g c1 cap _ l w6 hl HL6.out HC6.out).mono ?_
  rintro e w7 ⟨rfl, m3, rfl⟩
  have hb7 : Below w6.heap.size w6 (w6.drewN m3) := bdrewN (Below.refl _ _) _
  have HO27 := Lib.hid (HO26.out.below (Nat.le_refl _) hb7)
  have HO17 := Lib.hid (HO16.out.below (Nat.le_refl _) hb7)
  have HB7 := Lib.hid (HB6.out.trans (hb7.mono HB6.out.size))
  have HL7 := Lib.hid (HL6.out.below HL6.out.2.1 hb7)
  have HC7 := Lib.hid ((HC6.out.below hb7).more hb7.size)
  have HZ67 := Lib.hid hb7.size
  clear hb7 HO26 HO16 HB6 HL6 HC6
  generalize w6.drewN m3 = w7 at *
  go_wp2_with (go_at_call 29; refine halt_ ?_)
  refine Halt_.go ?_
  have hz1 := HZ12.out
  have hz2 : w2.heap.size ≤ w7.heap.size := Nat.le_trans HZ23.out (Nat.le_trans HZ34.out (Nat.le_trans HZ45.out (Nat.le_trans HZ56.out HZ67.out)))
  refine (apart_two A1 A2 k1 k2 2 zs zs w1.heap.size w2.heap.size w7 HO17.out HO27.out HT1.out hz1 HSH.out HSH.out hz2).mono ?_
  rintro e w8 ⟨rfl, hb8⟩
  have HB8 := Lib.hid (HB7.out.trans (hb8.mono HZ01.out))
  have HL8 := Lib.hid (HL7.out.below HG.out hb8)
  have HC8 := Lib.hid ((HC.out.below HB8.out).more HB8.out.size)
  clear hb8 hz1 hz2 HO17 HO27 HT1 HB7 HL7 HC7
  go_wp2_with (go_at_call 28; refine halt_ ?_)
  refine Halt_.go ?_
  refine (kept_any A g c1 cap _ l w8 hl HL8.out HC8.out).mono ?_
  rintro e w9 ⟨rfl, m4, rfl⟩
  have hb9 : Below w8.heap.size w8 (w8.drewN m4) := bdrewN (Below.refl _ _) _
  have HB9 := Lib.hid (HB8.out.trans (hb9.mono HB8.out.size))
  clear hb9 HL8 HC8 HB8
  generalize w8.drewN m4 = w9 at *
  go_wp2_with (go_at_call 30; refine halt_ ?_)
  refine Halt_.go ?_
  refine (works_any w9).mono ?_
  rintro e w10 ⟨rfl, hb10⟩
  have HB10 := Lib.hid (HB9.out.trans (hb10.mono HB9.out.size))
  clear hb10 HB9
  go_wp2
  go_ret
  exact ⟨rfl, HB10.out⟩
end Go.Proofs.Ytjifpjfinffamaa
