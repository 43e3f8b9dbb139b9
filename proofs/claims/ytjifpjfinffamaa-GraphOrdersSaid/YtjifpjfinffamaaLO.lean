/- Walk: GraphOrders. -/
import Derived.Test.YtjifpjfinffamaaWW
import Derived.Test.YtjifpjfinffamaaW2
import Derived.Test.YtjifpjfinffamaaD2
import Derived.Test.YtjifpjfinffamaaA3
namespace Go.Proofs.Ytjifpjfinffamaa
open Go.RowKit

theorem OrderS.short {n : Int} {l : List E} {xs : List Int} {e : Int} (h : OrderS n l xs e) : xs.length ≤ 65536 := by
  by_cases he : e = 0
  · subst he
    obtain ⟨N, _, hN, _, _, hx⟩ := h.whole
    omega
  · rw [h.none_ he]; simp
theorem depRow_len (l : List E) (x : Nat) : ∀ (row d : List Int), (depRow l x d row).length = d.length
  | [], d => rfl
  | i :: row, d => by
    have := depRow_len l x row (depE x d (eg l i.toNat))
    simp only [depRow, List.foldl_cons] at this ⊢
    rw [this]
    simp [depE]
theorem deps_len (l : List E) (N : Nat) (xs : List Int) : (deps l N xs).length = N := by
  have h : ∀ (xs d : List Int), (xs.foldl (fun d x => depRow l x.toNat d (outRow l x.toNat l.length)) d).length = d.length := by
    intro xs
    induction xs with
    | nil => intro d; rfl
    | cons x xs ih => intro d; rw [List.foldl_cons, ih, depRow_len]
  rw [deps, h]
  simp
theorem DepthW.short {n : Int} {l : List E} {xs : List Int} {e : Int} (h : DepthW n l xs e) : xs.length ≤ 65536 := by
  rcases h with ⟨_, _, rfl⟩ | ⟨rfl, o, ho, rfl⟩
  · simp
  · obtain ⟨N, rfl, hN, _, _, _⟩ := ho.whole
    rw [deps_len]
    omega

theorem apart_three (A1 A2 A3 : Option Addr) (c1 c2 c3 cm : Nat) (xs ys zs : List Int) (b0 b1 b2 : Nat) (w : World) (h1 : OwnI w b0 A1 c1 xs) (h2 : OwnI w b1 A2 c2 ys) (h3 : OwnI w b2 A3 c3 zs)
    (hl1 : ∀ g, (Value.slice A1 xs.length c1).ownBlock = some g → g < b1) (hl2 : ∀ g, (Value.slice A2 ys.length c2).ownBlock = some g → g < b2) (hb : b0 ≤ b1) (hb2 : b1 ≤ b2)
    (s1 : xs.length ≤ 65536) (s2 : ys.length ≤ 65536) (s3 : zs.length ≤ 65536) (h0 : b2 ≤ w.heap.size) :
    Calls Try.prog 29 #[.slice (some ⟨w.heap.size, 0, none⟩) 3 cm] (w.alloc (.cells #[.slice A1 xs.length c1, .slice A2 ys.length c2, .slice A3 zs.length c3] 31)) fun e w' => e = .returned (.bool true) ∧ Below b0 w w' := by
  have hl3 := fun g hg => (h3.lt g hg).2
  refine apart_row 3 (by decide) (fun j => if j = 0 then A1 else if j = 1 then A2 else A3) (fun j => if j = 0 then c1 else if j = 1 then c2 else c3) (fun j => if j = 0 then xs else if j = 1 then ys else zs)
    (fun j => if j = 0 then b0 else if j = 1 then b1 else if j = 2 then b2 else w.heap.size) _ cm w ?_ ?_ ?_ ?_ ?_ (by simpa using Nat.le_trans hb (Nat.le_trans hb2 h0))
  · intro j hj
    match j, hj with
    | 0, _ => exact h1
    | 1, _ => exact h2
    | 2, _ => exact h3
  · intro j hj
    match j, hj with
    | 0, _ => exact hl1
    | 1, _ => exact hl2
    | 2, _ => exact hl3
  · intro i j hij
    match i, j with
    | 0, 0 => exact Nat.le_refl _
    | 0, 1 => exact hb
    | 0, 2 => exact Nat.le_trans hb hb2
    | 0, j + 3 => exact Nat.le_trans hb (Nat.le_trans hb2 h0)
    | 1, 0 => omega
    | 1, 1 => exact Nat.le_refl _
    | 1, 2 => exact hb2
    | 1, j + 3 => exact Nat.le_trans hb2 h0
    | 2, 0 => omega
    | 2, 1 => omega
    | 2, 2 => exact Nat.le_refl _
    | 2, j + 3 => exact h0
    | i + 3, 0 => omega
    | i + 3, 1 => omega
    | i + 3, 2 => omega
    | i + 3, j + 3 => exact Nat.le_refl _
  · intro j hj
    match j, hj with
    | 0, _ => exact Nat.le_trans s1 (by decide)
    | 1, _ => exact Nat.le_trans s2 (by decide)
    | 2, _ => exact Nat.le_trans s3 (by decide)
  · intro j hj
    match j, hj with
    | 0, _ => rfl
    | 1, _ => rfl
    | 2, _ => rfl

set_option linter.unusedSimpArgs false in
set_option maxRecDepth 100000 in
set_option maxHeartbeats 3200000 in
theorem graphOrders_any (n : Int) (A : Option Addr) (cap : Nat) (l : List E) (w : World) (hl : l.length * 24 ≤ 140737488351232) (hc : RE w w.heap.size A l) :
    Calls Try.prog 8 #[.int .i64 n, .slice A l.length cap] w fun e w' => e = .returned (.bool true) ∧ Below w.heap.size w w' := by
  have HC := Lib.hid hc
  clear hc
  go_enter Try.func8, Try.ntmps8
  go_wp2_with (go_at_call 23; refine halt_ ?_)
  refine Halt_.go ?_
  refine (lend_any A cap l w hl HC.out).mono ?_
  rintro e w1 ⟨g, c1, rfl, hL, hb⟩
  have HB1 := Lib.hid hb
  have HL1 := Lib.hid hL
  have HZ1 := Lib.hid hb.size
  have HG := Lib.hid hL.2.1
  clear hb hL
  go_wp2_with (go_at_call 39; refine halt_ ?_)
  refine Halt_.go ?_
  refine (order_any n (some ⟨g, 0, none⟩) c1 l w1 hl HL1.out.reads).mono ?_
  rintro e w2 ⟨A1, k1, xs, er, rfl, hS, hown, hb⟩
  have HS := Lib.hid hS
  have HB2 := Lib.hid hb
  have HL2 := Lib.hid (HL1.out.below HG.out hb)
  have HO12 := Lib.hid hown
  have HT1 := Lib.hid (fun gg hg => (hown.lt gg hg).2)
  have HZ2 := Lib.hid hb.size
  clear hS hb hown HL1
  go_wp2_with (go_at_call 40; refine halt_ ?_)
  refine Halt_.go ?_
  refine (depths_any n (some ⟨g, 0, none⟩) c1 l w2 hl HL2.out.reads).mono ?_
  rintro e w3 ⟨A2, k2, ys, er2, rfl, hS, hown, hb⟩
  have HD := Lib.hid hS
  have HB3 := Lib.hid (HB2.out.trans (hb.mono HB2.out.size))
  have HL3 := Lib.hid (HL2.out.below (Nat.lt_of_lt_of_le HG.out HZ2.out) hb)
  have HO13 := Lib.hid (HO12.out.below (Nat.le_refl _) hb)
  have HO23 := Lib.hid hown
  have HT2 := Lib.hid (fun gg hg => (hown.lt gg hg).2)
  have HZ3 := Lib.hid hb.size
  clear hS hb hown HL2 HO12 HB2
  go_wp2_with (go_at_call 39; refine halt_ ?_)
  refine Halt_.go ?_
  refine (order_any n (some ⟨g, 0, none⟩) c1 l w3 hl HL3.out.reads).mono ?_
  rintro e w4 ⟨A3, k3, zs, er3, rfl, hS, hown, hb⟩
  obtain ⟨rfl, rfl⟩ := hS.unique HS.out
  have HB4 := Lib.hid (HB3.out.trans (hb.mono HB3.out.size))
  have HL4 := Lib.hid (HL3.out.below HL3.out.2.1 hb)
  have HO14 := Lib.hid (HO13.out.below (Nat.le_refl _) hb)
  have HO24 := Lib.hid (HO23.out.below (Nat.le_refl _) hb)
  have HO34 := Lib.hid hown
  have HZ4 := Lib.hid hb.size
  clear hS hb hown HL3 HO13 HO23 HB3
  have HC4 := Lib.hid ((HC.out.below (HB1.out.trans (HB4.out.mono HB1.out.size))).more (HB1.out.trans (HB4.out.mono HB1.out.size)).size)
  go_wp2_with (go_at_call 41; refine halt_ ?_)
  refine Halt_.go ?_
  refine (refOrder_any n A cap l w4 hl HC4.out).mono ?_
  rintro e w5 ⟨A4, k4, ws, er4, rfl, hS, hown, hb⟩
  obtain ⟨rfl, rfl⟩ := hS.unique HS.out
  have HB5 := Lib.hid (HB4.out.trans (hb.mono HB4.out.size))
  have HL5 := Lib.hid (HL4.out.below HL4.out.2.1 hb)
  have HO15 := Lib.hid (HO14.out.below (Nat.le_refl _) hb)
  have HO25 := Lib.hid (HO24.out.below (Nat.le_refl _) hb)
  have HO35 := Lib.hid (HO34.out.below (Nat.le_refl _) hb)
  have HO45 := Lib.hid hown
  have HC5 := Lib.hid ((HC4.out.below hb).more hb.size)
  have HZ5 := Lib.hid hb.size
  clear hS hb hown HL4 HO14 HO24 HO34 HB4 HC4
  go_wp2_with (go_at_call 42; refine halt_ ?_)
  refine Halt_.go ?_
  refine (refDepths_any n A cap l w5 hl HC5.out).mono ?_
  rintro e w6 ⟨A5, k5, vs, er5, rfl, hS, hown, hb⟩
  obtain ⟨rfl, rfl⟩ := hS.unique HD.out
  have HB6 := Lib.hid (HB5.out.trans (hb.mono HB5.out.size))
  have HL6 := Lib.hid (HL5.out.below HL5.out.2.1 hb)
  have HO16 := Lib.hid (HO15.out.below (Nat.le_refl _) hb)
  have HO26 := Lib.hid (HO25.out.below (Nat.le_refl _) hb)
  have HO36 := Lib.hid (HO35.out.below (Nat.le_refl _) hb)
  have HO46 := Lib.hid (HO45.out.below (Nat.le_refl _) hb)
  have HO56 := Lib.hid hown
  have HZ6 := Lib.hid hb.size
  have HS1 := Lib.hid HS.out.short
  have HS2 := Lib.hid HD.out.short
  have HZ36 := Lib.hid (Nat.le_trans HZ4.out (Nat.le_trans HZ5.out HZ6.out))
  clear hS hb hown HL5 HO15 HO25 HO35 HO45 HB5 HC5
  have q1 := intsB_self ws
  have q2 := intsB_self vs
  have q3 : (er4 == er4) = true := by simp
  have q4 : (er5 == er5) = true := by simp
  go_wp2_with (go_at_call 26; refine halt_ ?_)
  refine Halt_.go ?_
  refine (ints_any A1 A4 k1 k4 ws ws w6 HO16.out.reads HO46.out.reads (by have := HS1.out; omega)).mono ?_
  rintro e w7 ⟨rfl, m1, rfl⟩
  rw [q1]
  have hb : Below w6.heap.size w6 (w6.drewN m1) := bdrewN (Below.refl _ _) _
  have HB7 := Lib.hid (HB6.out.trans (hb.mono HB6.out.size))
  have HL7 := Lib.hid (HL6.out.below HL6.out.2.1 hb)
  have HO17 := Lib.hid (HO16.out.below (Nat.le_refl _) hb)
  have HO27 := Lib.hid (HO26.out.below (Nat.le_refl _) hb)
  have HO37 := Lib.hid (HO36.out.below (Nat.le_refl _) hb)
  have HO47 := Lib.hid (HO46.out.below (Nat.le_refl _) hb)
  have HO57 := Lib.hid (HO56.out.below (Nat.le_refl _) hb)
  have HZ7 := Lib.hid hb.size
  clear hb HL6 HO16 HO26 HO36 HO46 HO56 HB6
  generalize w6.drewN m1 = w7 at *
  go_wp2_with (go_at_call 26; refine halt_ ?_)
  refine Halt_.go ?_
  refine (ints_any A3 A4 k3 k4 ws ws w7 HO37.out.reads HO47.out.reads (by have := HS1.out; omega)).mono ?_
  rintro e w8 ⟨rfl, m2, rfl⟩
  rw [q1]
  have hb : Below w7.heap.size w7 (w7.drewN m2) := bdrewN (Below.refl _ _) _
  have HB8 := Lib.hid (HB7.out.trans (hb.mono HB7.out.size))
  have HL8 := Lib.hid (HL7.out.below HL7.out.2.1 hb)
  have HO18 := Lib.hid (HO17.out.below (Nat.le_refl _) hb)
  have HO28 := Lib.hid (HO27.out.below (Nat.le_refl _) hb)
  have HO38 := Lib.hid (HO37.out.below (Nat.le_refl _) hb)
  have HO58 := Lib.hid (HO57.out.below (Nat.le_refl _) hb)
  have HZ8 := Lib.hid hb.size
  clear hb HL7 HO17 HO27 HO37 HO47 HO57 HB7
  generalize w7.drewN m2 = w8 at *
  go_wp2_with (first
    | (go_at_call 27; refine (num_any _ _).mono ?_; rintro e wx ⟨rfl, rfl⟩)
    | (go_at_call 26; refine halt_ ?_))
  refine Halt_.go ?_
  refine (ints_any A2 A5 k2 k5 vs vs w8 HO28.out.reads HO58.out.reads (by have := HS2.out; omega)).mono ?_
  rintro e w9 ⟨rfl, m3, rfl⟩
  rw [q2]
  have hb : Below w8.heap.size w8 (w8.drewN m3) := bdrewN (Below.refl _ _) _
  have HB9 := Lib.hid (HB8.out.trans (hb.mono HB8.out.size))
  have HL9 := Lib.hid (HL8.out.below HL8.out.2.1 hb)
  have HO19 := Lib.hid (HO18.out.below (Nat.le_refl _) hb)
  have HO29 := Lib.hid (HO28.out.below (Nat.le_refl _) hb)
  have HO39 := Lib.hid (HO38.out.below (Nat.le_refl _) hb)
  have HZ9 := Lib.hid hb.size
  clear hb HL8 HO18 HO28 HO38 HO58 HB8
  generalize w8.drewN m3 = w9 at *
  have HC9 := Lib.hid ((HC.out.below (HB1.out.trans (HB9.out.mono HB1.out.size))).more (HB1.out.trans (HB9.out.mono HB1.out.size)).size)
  go_wp2_with (first
    | (go_at_call 27; refine (num_any _ _).mono ?_; rintro e wx ⟨rfl, rfl⟩)
    | (go_at_call 28; refine halt_ ?_))
  refine Halt_.go ?_
  refine (kept_any A g c1 cap _ l w9 hl HL9.out HC9.out).mono ?_
  rintro e w10 ⟨rfl, m4, rfl⟩
  have hb : Below w9.heap.size w9 (w9.drewN m4) := bdrewN (Below.refl _ _) _
  have HB10 := Lib.hid (HB9.out.trans (hb.mono HB9.out.size))
  have HL10 := Lib.hid (HL9.out.below HL9.out.2.1 hb)
  have HO110 := Lib.hid (HO19.out.below (Nat.le_refl _) hb)
  have HO210 := Lib.hid (HO29.out.below (Nat.le_refl _) hb)
  have HO310 := Lib.hid (HO39.out.below (Nat.le_refl _) hb)
  have HZ310 := Lib.hid (Nat.le_trans HZ36.out (Nat.le_trans HZ7.out (Nat.le_trans HZ8.out (Nat.le_trans HZ9.out hb.size))))
  clear hb HL9 HO19 HO29 HO39 HB9 HC9
  generalize w9.drewN m4 = w10 at *
  go_wp2_with (go_at_call 29; refine halt_ ?_)
  refine Halt_.go ?_
  refine (apart_three A1 A2 A3 k1 k2 k3 3 ws vs ws w1.heap.size w2.heap.size w3.heap.size w10 HO110.out HO210.out HO310.out HT1.out HT2.out HZ2.out HZ3.out HS1.out HS2.out HS1.out HZ310.out).mono ?_
  rintro e w11 ⟨rfl, hb⟩
  have HB11 := Lib.hid (HB1.out.trans ((HB10.out.trans hb).mono HB1.out.size))
  have HL11 := Lib.hid (HL10.out.below HG.out hb)
  have HC11 := Lib.hid ((HC.out.below HB11.out).more HB11.out.size)
  clear hb HO110 HO210 HO310 HT1 HT2 HB10 HL10 HC
  go_wp2_with (go_at_call 28; refine halt_ ?_)
  refine Halt_.go ?_
  refine (kept_any A g c1 cap _ l w11 hl HL11.out HC11.out).mono ?_
  rintro e w12 ⟨rfl, m5, rfl⟩
  have hb : Below w11.heap.size w11 (w11.drewN m5) := bdrewN (Below.refl _ _) _
  have HB12 := Lib.hid (HB11.out.trans (hb.mono HB11.out.size))
  clear hb HL11 HC11 HB11
  generalize w11.drewN m5 = w12 at *
  go_wp2_with (go_at_call 30; refine halt_ ?_)
  refine Halt_.go ?_
  refine (works_any w12).mono ?_
  rintro e w13 ⟨rfl, hb⟩
  have HB13 := Lib.hid (HB12.out.trans (hb.mono HB12.out.size))
  clear hb HB12
  go_wp2
  go_ret
  exact ⟨rfl, HB13.out⟩
end Go.Proofs.Ytjifpjfinffamaa
