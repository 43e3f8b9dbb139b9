/- Walk: GraphTells, where there is no order. -/
import Derived.Test.YtjifpjfinffamaaWW
import Derived.Test.YtjifpjfinffamaaT1
import Derived.Test.YtjifpjfinffamaaLE
import Derived.Test.YtjifpjfinffamaaA3
import Derived.Test.YtjifpjfinffamaaW7
import Derived.Test.YtjifpjfinffamaaNS
namespace Go.Proofs.Ytjifpjfinffamaa
open Go.RowKit

set_option linter.unusedSimpArgs false in
set_option maxRecDepth 100000 in
set_option maxHeartbeats 20000000 in
theorem tells_wrong (n : Int) (A : Option Addr) (cap : Nat) (l : List E) (w : World) (hl : l.length * 24 ≤ 140737488351232) (hc : RE w w.heap.size A l) (hw : rightB n l = false) :
    Calls Try.prog 7 #[.int .i64 n, .slice A l.length cap] w fun e w' => e = .returned (.bool true) ∧ Below w.heap.size w w' := by
  have HC := Lib.hid hc
  clear hc
  go_enter Try.func7, Try.ntmps7
  go_wp2_with (go_at_call 39; refine halt_ ?_)
  refine Halt_.go ?_
  refine (order_any n A cap l w hl HC.out).mono ?_
  rintro e w1 ⟨A1, k1, xs, er, rfl, hS, hown, hb⟩
  have HS := Lib.hid hS
  have HB1 := Lib.hid hb
  have HC1 := Lib.hid ((HC.out.below hb).more hb.size)
  have HO11 := Lib.hid hown
  clear hS hb hown
  go_wp2_with (go_at_call 24; refine halt_ ?_)
  refine Halt_.go ?_
  refine (round_any n A cap l w1 hl HC1.out).mono ?_
  rintro e w2 ⟨A2, k2, ys, ok, er2, rfl, hS, hown, hb⟩
  have HR := Lib.hid hS
  have HB2 := Lib.hid (HB1.out.trans (hb.mono HB1.out.size))
  have HC2 := Lib.hid ((HC1.out.below hb).more hb.size)
  have HO12 := Lib.hid (HO11.out.below (Nat.le_refl _) hb)
  have HO22 := Lib.hid hown
  clear hS hb hown HC1 HO11 HB1
  rcases HR.out with ⟨_, rfl, rfl, rfl⟩ | ⟨h, _⟩
  · obtain ⟨rfl, rfl⟩ : xs = [] ∧ er = 2 := by
      rcases HS.out with ⟨_, h1, h2⟩ | ⟨h, _⟩
      · exact ⟨h1, h2⟩
      · rw [hw] at h; cases h
    clear HS HR HC2 HO12 HO22
    go_wp2_with (first
      | (go_at_call 27; refine (num_any _ _).mono ?_; rintro e wx ⟨rfl, rfl⟩)
      | (go_at_call 30; refine halt_ ?_))
    refine Halt_.go ?_
    refine (works_any w2).mono ?_
    rintro e w13 ⟨rfl, hb⟩
    have HB13 := Lib.hid (HB2.out.trans (hb.mono HB2.out.size))
    clear hb HB2
    go_wp2
    go_ret
    exact ⟨rfl, HB13.out⟩
  · rw [hw] at h; cases h

set_option linter.unusedSimpArgs false in
set_option maxRecDepth 100000 in
set_option maxHeartbeats 20000000 in
theorem tells_round (n : Int) (A : Option Addr) (cap : Nat) (l : List E) (w : World) (hl : l.length * 24 ≤ 140737488351232) (hc : RE w w.heap.size A l) (hw : rightB n l = true) (hq : pick (gap l) l.length ≠ none) :
    Calls Try.prog 7 #[.int .i64 n, .slice A l.length cap] w fun e w' => e = .returned (.bool true) ∧ Below w.heap.size w w' := by
  have HC := Lib.hid hc
  clear hc
  go_enter Try.func7, Try.ntmps7
  go_wp2_with (go_at_call 39; refine halt_ ?_)
  refine Halt_.go ?_
  refine (order_any n A cap l w hl HC.out).mono ?_
  rintro e w1 ⟨A1, k1, xs, er, rfl, hS, hown, hb⟩
  have HS := Lib.hid hS
  have HB1 := Lib.hid hb
  have HC1 := Lib.hid ((HC.out.below hb).more hb.size)
  have HO11 := Lib.hid hown
  clear hS hb hown
  go_wp2_with (go_at_call 24; refine halt_ ?_)
  refine Halt_.go ?_
  refine (round_any n A cap l w1 hl HC1.out).mono ?_
  rintro e w2 ⟨A2, k2, ys, ok, er2, rfl, hS, hown, hb⟩
  have HR := Lib.hid hS
  have HB2 := Lib.hid (HB1.out.trans (hb.mono HB1.out.size))
  have HC2 := Lib.hid ((HC1.out.below hb).more hb.size)
  have HO12 := Lib.hid (HO11.out.below (Nat.le_refl _) hb)
  have HO22 := Lib.hid hown
  clear hS hb hown HC1 HO11 HB1
  obtain ⟨rfl, rfl, rfl, rfl, i0, k0, hp, hys⟩ : er2 = 0 ∧ ok = true ∧ er = 270 ∧ xs = [] ∧ ∃ i k, pick (gap l) l.length = some (i, k) ∧ ys = roundL l i k := by
    rcases tells HS.out HR.out with ⟨rfl, _⟩ | h | ⟨_, rfl, _⟩
    · rcases HR.out with ⟨h, _⟩ | ⟨_, h, _⟩
      · rw [hw] at h; cases h
      · cases h
    · exact h
    · rcases HR.out with ⟨h, _⟩ | ⟨_, _, ⟨h, _⟩ | ⟨_, _, _, _, h⟩⟩
      · rw [hw] at h; cases h
      · exact absurd h hq
      · cases h
  clear hw hq
  have hf := round_follows hp
  rw [← hys] at hf
  have hpos := hf.1
  have HF := Lib.hid hf.2
  have hys6 := HR.out.short
  clear hf hp hys HS HR HO12
  have HW2 := Lib.hid (Below.refl w2.heap.size w2)
  go_wp2_with (go_at_call 27; refine (num_any _ _).mono ?_; rintro e wx ⟨rfl, rfl⟩)
  go_loopw [10] (fun i wr => ∃ p : Nat, p ≤ ys.length ∧ i = .int .i64 p ∧ Hid (Below w2.heap.size w2 wr)) (fun i _ => ys.length - (intOf i).toNat)
  case atStart => exact ⟨0, Nat.zero_le _, rfl, HW2⟩
  case round =>
    obtain ⟨p, hp, rfl, HB⟩ := hrel
    by_cases hlt : p < ys.length
    · obtain ⟨a, b, ha, hb, hal, hbl, hft⟩ := HF.out p hlt
      have hm : (p + 1) % ys.length < ys.length := Nat.mod_lt _ hpos
      have i9 : ((p : Int) + 1) % (ys.length : Int) = (((p + 1) % ys.length : Nat) : Int) := by simp
      generalize (p + 1) % ys.length = m at *
      obtain ⟨yb, yo, x, hA2, hyb, hx, hxc⟩ := HO22.out.reads.at_ HB.out hlt
      subst hA2
      obtain ⟨yb', yo', y, hA2, _, hy, hyc⟩ := HO22.out.reads.at_ HB.out hm
      injection hA2 with hA2
      injection hA2 with e1 e2
      subst e1 e2
      have h1 := hx.out.symm.trans ha
      injection h1 with h1
      subst h1
      have h1 := hy.out.symm.trans hb
      injection h1 with h1
      subst h1
      obtain ⟨eb, eo, f, t, kk, hA, heb, he, he1, he2, he3⟩ := HC2.out.at_ HB.out hal
      subst hA
      obtain ⟨f2, t2, kk2, _, hg2, _, hq1, hq2⟩ := HC2.out.at2 HB.out hbl
      have heg : eg l a = ⟨f, t, kk⟩ := by simp [eg, List.getD, he.out]
      rw [heg, hg2] at hft
      obtain rfl : t = f2 := hft
      have i1 : (0 : Int) ≤ (p : Int) := by omega
      have i2 : (p : Int) < (ys.length : Int) := by omega
      have i3 : (0 : Int) ≤ (a : Int) := by omega
      have i4 : (a : Int) < (l.length : Int) := by omega
      have i5 : (0 : Int) ≤ (b : Int) := by omega
      have i6 : (b : Int) < (l.length : Int) := by omega
      have i7 : ((ys.length : Int) == 0) = false := beq_eq_false_iff_ne.2 (by omega)
      have i8 : (t != t) = false := by simp
      have i10 : (0 : Int) ≤ (m : Int) := by omega
      have i11 : (m : Int) < (ys.length : Int) := by omega
      clear ha hb he heg hg2 hx hy
      go_wp2
      go_quiet (fail)
      go_wp2
      go_roundw
      case rel => exact ⟨p + 1, hlt, by go_num, Lib.hid (bdrewN HB.out _)⟩
      case measure => simp [intOf]; omega
    · obtain rfl : p = ys.length := by omega
      have HBX := Lib.hid (HB2.out.trans (HB.out.mono HB2.out.size))
      have i1 : ((ys.length : Int) > 0) := by omega
      clear HB HF
      go_wp2_with (first
        | (go_at_call 27; refine (num_any _ _).mono ?_; rintro e wx ⟨rfl, rfl⟩)
        | (go_at_call 30; refine halt_ ?_))
      refine Halt_.go ?_
      refine (works_any wr).mono ?_
      rintro e w13 ⟨rfl, hb⟩
      have HB13 := Lib.hid (HBX.out.trans (hb.mono HBX.out.size))
      clear hb HBX
      go_wp2
      go_ret
      exact ⟨rfl, HB13.out⟩
end Go.Proofs.Ytjifpjfinffamaa
