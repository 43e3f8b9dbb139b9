/- Walk: GraphReaches. -/
import Derived.Test.YtjifpjfinffamaaWW
import Derived.Test.YtjifpjfinffamaaW2
import Derived.Test.YtjifpjfinffamaaW7
import Derived.Test.YtjifpjfinffamaaNR
import Derived.Test.YtjifpjfinffamaaA3
namespace Go.Proofs.Ytjifpjfinffamaa
open Go.RowKit

theorem ReachS.short {n σ : Int} {l : List E} {xs : List Int} {e : Int} (h : ReachS n σ l xs e) : xs.length ≤ 1099511627776 := by
  rcases h with ⟨_, rfl, _⟩ | ⟨h1, _, _, _, d, _, rfl⟩
  · simp
  · obtain ⟨N, rfl, hN, _⟩ := right_ok h1
    have := reachL_len d ((N : Int)).toNat
    simp only [Int.toNat_natCast] at this ⊢
    omega
theorem pair_inj {N a b c d : Int} (hb : 0 ≤ b ∧ b < N) (hd : 0 ≤ d ∧ d < N) (h : a * N + b = c * N + d) : a = c ∧ b = d := by
  rcases Int.lt_trichotomy a c with h1 | h1 | h1
  · have : (a + 1) * N ≤ c * N := Int.mul_le_mul_of_nonneg_right (by omega) (by omega)
    rw [Int.add_mul, Int.one_mul] at this
    omega
  · subst h1; exact ⟨rfl, by omega⟩
  · have : (c + 1) * N ≤ a * N := Int.mul_le_mul_of_nonneg_right (by omega) (by omega)
    rw [Int.add_mul, Int.one_mul] at this
    omega
theorem ndL_few {N : Nat} {l : List E} (ok : Ok N l) : (ndL l l.length).length ≤ N * N := by
  have hm : ∀ i ∈ ndL l l.length, ∃ j : Nat, i = j ∧ j < l.length ∧ ndl l j := by
    intro i hi
    unfold ndL at hi
    simp only [List.mem_map, List.mem_filter, List.mem_range, decide_eq_true_eq] at hi
    obtain ⟨j, ⟨h1, h2⟩, rfl⟩ := hi
    exact ⟨j, rfl, h1, h2⟩
  have hs : (ndL l l.length).Pairwise (· < ·) := by
    unfold ndL
    rw [List.pairwise_map]
    exact (List.pairwise_lt_range.filter _).imp (fun h => by simpa using h)
  have h := nodup_le (N * N) ((ndL l l.length).map fun i => (eg l i.toNat).f * N + (eg l i.toNat).t) ?_ ?_
  · simpa using h
  · unfold List.Nodup
    rw [List.pairwise_map]
    refine hs.imp_of_mem ?_
    rintro a b ha hb hlt he
    obtain ⟨i, rfl, hi, hni⟩ := hm a ha
    obtain ⟨j, rfl, hj, hnj⟩ := hm b hb
    simp only [Int.toNat_natCast] at he
    have := pair_inj (ok _ (eg_mem hi)).2 (ok _ (eg_mem hj)).2 he
    exact hnj.1 i (by omega) this
  · intro v hv
    obtain ⟨i, hi, rfl⟩ := List.mem_map.1 hv
    obtain ⟨j, rfl, hj, _⟩ := hm i hi
    simp only [Int.toNat_natCast]
    have h1 := ok _ (eg_mem hj)
    have h2 : 0 ≤ (eg l j).f * (N : Int) := Int.mul_nonneg h1.1.1 (by omega)
    have h3 : ((eg l j).f + 1) * (N : Int) ≤ (N : Int) * N := Int.mul_le_mul_of_nonneg_right (by omega) (by omega)
    rw [Int.add_mul, Int.one_mul] at h3
    have h4 : ((N * N : Nat) : Int) = (N : Int) * N := by simp
    omega
theorem NeedS.short {n : Int} {l : List E} {xs : List Int} {e : Int} (h : NeedS n l xs e) : xs.length ≤ 1099511627776 := by
  rcases h with ⟨_, _, rfl⟩ | ⟨rfl, o, h2, rfl⟩
  · simp
  · obtain ⟨N, rfl, hN, ok, _, _⟩ := h2.whole
    have h := ndL_few ok
    have : N * N ≤ 65536 * 65536 := Nat.mul_le_mul hN hN
    omega

theorem apart_pair (A1 A2 : Option Addr) (c1 c2 cm : Nat) (xs ys : List Int) (b0 b1 : Nat) (w : World) (h1 : OwnI w b0 A1 c1 xs) (h2 : OwnI w b1 A2 c2 ys)
    (hl1 : ∀ g, (Value.slice A1 xs.length c1).ownBlock = some g → g < b1) (hb : b0 ≤ b1) (s1 : xs.length ≤ 1099511627776) (s2 : ys.length ≤ 1099511627776) (h0 : b1 ≤ w.heap.size) :
    Calls Try.prog 29 #[.slice (some ⟨w.heap.size, 0, none⟩) 2 cm] (w.alloc (.cells #[.slice A1 xs.length c1, .slice A2 ys.length c2] 31)) fun e w' => e = .returned (.bool true) ∧ Below b0 w w' := by
  have hl2 := fun g hg => (h2.lt g hg).2
  refine apart_row 2 (by decide) (fun j => if j = 0 then A1 else A2) (fun j => if j = 0 then c1 else c2) (fun j => if j = 0 then xs else ys) (fun j => if j = 0 then b0 else if j = 1 then b1 else w.heap.size) _ cm w ?_ ?_ ?_ ?_ ?_ (by simpa using Nat.le_trans hb h0)
  · intro j hj
    match j, hj with
    | 0, _ => exact h1
    | 1, _ => exact h2
  · intro j hj
    match j, hj with
    | 0, _ => exact hl1
    | 1, _ => exact hl2
  · intro i j hij
    match i, j with
    | 0, 0 => exact Nat.le_refl _
    | 0, 1 => exact hb
    | 0, j + 2 => exact Nat.le_trans hb h0
    | 1, 0 => omega
    | 1, 1 => exact Nat.le_refl _
    | 1, j + 2 => exact h0
    | i + 2, 0 => omega
    | i + 2, 1 => omega
    | i + 2, j + 2 => exact Nat.le_refl _
  · intro j hj
    match j, hj with
    | 0, _ => exact s1
    | 1, _ => exact s2
  · intro j hj
    match j, hj with
    | 0, _ => rfl
    | 1, _ => rfl

set_option linter.unusedSimpArgs false in
set_option maxRecDepth 100000 in
set_option maxHeartbeats 3200000 in
theorem graphReaches_any (n σ : Int) (A : Option Addr) (cap : Nat) (l : List E) (w : World) (hl : l.length * 24 ≤ 140737488351232) (hc : RE w w.heap.size A l) :
    Calls Try.prog 6 #[.int .i64 n, .int .i64 σ, .slice A l.length cap] w fun e w' => e = .returned (.bool true) ∧ Below w.heap.size w w' := by
  have HC := Lib.hid hc
  clear hc
  go_enter Try.func6, Try.ntmps6
  go_wp2_with (go_at_call 23; refine halt_ ?_)
  refine Halt_.go ?_
  refine (lend_any A cap l w hl HC.out).mono ?_
  rintro e w1 ⟨g, c1, rfl, hL, hb⟩
  have HB1 := Lib.hid hb
  have HL1 := Lib.hid hL
  have HG := Lib.hid hL.2.1
  clear hb hL
  go_wp2_with (go_at_call 35; refine halt_ ?_)
  refine Halt_.go ?_
  refine (reach_any n σ (some ⟨g, 0, none⟩) c1 l w1 hl HL1.out.reads).mono ?_
  rintro e w2 ⟨A1, k1, xs, er, rfl, hS, hown, hb⟩
  have HS := Lib.hid hS
  have HB2 := Lib.hid hb
  have HL2 := Lib.hid (HL1.out.below HG.out hb)
  have HO12 := Lib.hid hown
  have HT1 := Lib.hid (fun gg hg => (hown.lt gg hg).2)
  have HZ2 := Lib.hid hb.size
  clear hS hb hown HL1
  go_wp2_with (go_at_call 36; refine halt_ ?_)
  refine Halt_.go ?_
  refine (needed_any n (some ⟨g, 0, none⟩) c1 l w2 hl HL2.out.reads).mono ?_
  rintro e w3 ⟨A2, k2, ys, er2, rfl, hS, hown, hb⟩
  have HD := Lib.hid hS.same
  have HB3 := Lib.hid (HB2.out.trans (hb.mono HB2.out.size))
  have HL3 := Lib.hid (HL2.out.below (Nat.lt_of_lt_of_le HG.out HZ2.out) hb)
  have HO13 := Lib.hid (HO12.out.below (Nat.le_refl _) hb)
  have HO23 := Lib.hid hown
  have HZ3 := Lib.hid hb.size
  clear hS hb hown HL2 HO12 HB2
  have HC3 := Lib.hid ((HC.out.below (HB1.out.trans (HB3.out.mono HB1.out.size))).more (HB1.out.trans (HB3.out.mono HB1.out.size)).size)
  go_wp2_with (go_at_call 37; refine halt_ ?_)
  refine Halt_.go ?_
  refine (refReach_any n σ A cap l w3 hl HC3.out).mono ?_
  rintro e w4 ⟨A3, k3, zs, er3, rfl, hS, hown, hb⟩
  obtain ⟨rfl, rfl⟩ := hS.unique HS.out
  have HB4 := Lib.hid (HB3.out.trans (hb.mono HB3.out.size))
  have HL4 := Lib.hid (HL3.out.below HL3.out.2.1 hb)
  have HO14 := Lib.hid (HO13.out.below (Nat.le_refl _) hb)
  have HO24 := Lib.hid (HO23.out.below (Nat.le_refl _) hb)
  have HO34 := Lib.hid hown
  have HZ4 := Lib.hid hb.size
  have HC4 := Lib.hid ((HC3.out.below hb).more hb.size)
  clear hS hb hown HL3 HO13 HO23 HB3 HC3
  go_wp2_with (go_at_call 38; refine halt_ ?_)
  refine Halt_.go ?_
  refine (refNeeded_any n A cap l w4 hl HC4.out).mono ?_
  rintro e w6 ⟨A5, k5, vs, er5, rfl, hS, hown, hb⟩
  obtain ⟨rfl, rfl⟩ := hS.unique HD.out
  have HB6 := Lib.hid (HB4.out.trans (hb.mono HB4.out.size))
  have HL6 := Lib.hid (HL4.out.below HL4.out.2.1 hb)
  have HO16 := Lib.hid (HO14.out.below (Nat.le_refl _) hb)
  have HO26 := Lib.hid (HO24.out.below (Nat.le_refl _) hb)
  have HO36 := Lib.hid (HO34.out.below (Nat.le_refl _) hb)
  have HO56 := Lib.hid hown
  have HZ6 := Lib.hid hb.size
  have HS1 := Lib.hid HS.out.short
  have HS2 := Lib.hid HD.out.short
  have HZ36 := Lib.hid (Nat.le_trans HZ3.out (Nat.le_trans HZ4.out HZ6.out))
  clear hS hb hown HL4 HO14 HO24 HO34 HB4 HC4
  have q1 := intsB_self zs
  have q2 := intsB_self vs
  have q3 : (er3 == er3) = true := by simp
  have q4 : (er5 == er5) = true := by simp
  go_wp2_with (go_at_call 26; refine halt_ ?_)
  refine Halt_.go ?_
  refine (ints_any A1 A3 k1 k3 zs zs w6 HO16.out.reads HO36.out.reads (by have := HS1.out; omega)).mono ?_
  rintro e w7 ⟨rfl, m1, rfl⟩
  rw [q1]
  have hb : Below w6.heap.size w6 (w6.drewN m1) := bdrewN (Below.refl _ _) _
  have HB7 := Lib.hid (HB6.out.trans (hb.mono HB6.out.size))
  have HL7 := Lib.hid (HL6.out.below HL6.out.2.1 hb)
  have HO17 := Lib.hid (HO16.out.below (Nat.le_refl _) hb)
  have HO27 := Lib.hid (HO26.out.below (Nat.le_refl _) hb)
  have HO57 := Lib.hid (HO56.out.below (Nat.le_refl _) hb)
  have HZ7 := Lib.hid hb.size
  clear hb HL6 HO16 HO26 HO36 HO56 HB6
  generalize w6.drewN m1 = w7 at *
  go_wp2_with (first
    | (go_at_call 27; refine (num_any _ _).mono ?_; rintro e wx ⟨rfl, rfl⟩)
    | (go_at_call 26; refine halt_ ?_))
  refine Halt_.go ?_
  refine (ints_any A2 A5 k2 k5 vs vs w7 HO27.out.reads HO57.out.reads (by have := HS2.out; omega)).mono ?_
  rintro e w9 ⟨rfl, m3, rfl⟩
  rw [q2]
  have hb : Below w7.heap.size w7 (w7.drewN m3) := bdrewN (Below.refl _ _) _
  have HB9 := Lib.hid (HB7.out.trans (hb.mono HB7.out.size))
  have HL9 := Lib.hid (HL7.out.below HL7.out.2.1 hb)
  have HO19 := Lib.hid (HO17.out.below (Nat.le_refl _) hb)
  have HO29 := Lib.hid (HO27.out.below (Nat.le_refl _) hb)
  have HZ9 := Lib.hid hb.size
  clear hb HL7 HO17 HO27 HO57 HB7
  generalize w7.drewN m3 = w9 at *
  have HC9 := Lib.hid ((HC.out.below (HB1.out.trans (HB9.out.mono HB1.out.size))).more (HB1.out.trans (HB9.out.mono HB1.out.size)).size)
  go_wp2_with (first
    | (go_at_call 27; refine (num_any _ _).mono ?_; rintro e wx ⟨rfl, rfl⟩)
    | (go_at_call 28; refine halt_ ?_))
  refine Halt_.go ?_
  refine (kept_any A g c1 cap _ l w9 hl HL9.out HC9.out).mono ?_
  rintro e w10 ⟨rfl, m4, rfl⟩
  have hb : Below w9.heap.size w9 (w9.drewN m4) := bdrewN (Below.refl _ _) _
  have HB10 := Lib.hid (HB9.out.trans (hb.mono HB9.out.size))
  have HL10 := Lib.hid (HL9.out.below HL9.out.2.1 hb)
  have HO110 := Lib.hid (HO19.out.below (Nat.le_refl _) hb)
  have HO210 := Lib.hid (HO29.out.below (Nat.le_refl _) hb)
  have HZ310 := Lib.hid (Nat.le_trans HZ36.out (Nat.le_trans HZ7.out (Nat.le_trans HZ9.out hb.size)))
  clear hb HL9 HO19 HO29 HB9 HC9
  generalize w9.drewN m4 = w10 at *
  go_wp2_with (go_at_call 29; refine halt_ ?_)
  refine Halt_.go ?_
  refine (apart_pair A1 A2 k1 k2 2 zs vs w1.heap.size w2.heap.size w10 HO110.out HO210.out HT1.out HZ2.out HS1.out HS2.out HZ310.out).mono ?_
  rintro e w11 ⟨rfl, hb⟩
  have HB11 := Lib.hid (HB1.out.trans ((HB10.out.trans hb).mono HB1.out.size))
  have HL11 := Lib.hid (HL10.out.below HG.out hb)
  have HC11 := Lib.hid ((HC.out.below HB11.out).more HB11.out.size)
  clear hb HO110 HO210 HT1 HB10 HL10 HC
  go_wp2_with (go_at_call 28; refine halt_ ?_)
  refine Halt_.go ?_
  refine (kept_any A g c1 cap _ l w11 hl HL11.out HC11.out).mono ?_
  rintro e w12 ⟨rfl, m5, rfl⟩
  have hb : Below w11.heap.size w11 (w11.drewN m5) := bdrewN (Below.refl _ _) _
  have HB12 := Lib.hid (HB11.out.trans (hb.mono HB11.out.size))
  clear hb HL11 HC11 HB11
  generalize w11.drewN m5 = w12 at *
  go_wp2_with (go_at_call 30; refine halt_ ?_)
  refine Halt_.go ?_
  refine (works_any w12).mono ?_
  rintro e w13 ⟨rfl, hb⟩
  have HB13 := Lib.hid (HB12.out.trans (hb.mono HB12.out.size))
  clear hb HB12
  go_wp2
  go_ret
  exact ⟨rfl, HB13.out⟩
end Go.Proofs.Ytjifpjfinffamaa
