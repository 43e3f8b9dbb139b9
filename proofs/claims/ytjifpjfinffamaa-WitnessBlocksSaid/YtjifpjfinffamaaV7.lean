/- Walk: events.formed. -/
import Derived.Test.YtjifpjfinffamaaV5
import Derived.Handy
namespace Go.Proofs.Ytjifpjfinffamaa
open Go.RowKit

theorem andnot_nat (x : Nat) (hx : x < 18446744073709551616) : x &&& 18446744073709551614 = x - x % 2 := by
  apply Nat.eq_of_testBit_eq
  intro i
  rw [Nat.testBit_and]
  have e : x - x % 2 = 2 * (x / 2) := by omega
  rw [e]
  cases i with
  | zero => simp [Nat.testBit_zero]
  | succ i =>
    rw [Nat.testBit_succ, Nat.testBit_succ, Nat.testBit_succ, show 18446744073709551614 / 2 = 2 ^ 63 - 1 from rfl, Nat.testBit_two_pow_sub_one, show 2 * (x / 2) / 2 = x / 2 by omega]
    by_cases h : i < 63
    · simp [h]
    · have : (x / 2).testBit i = false := Nat.testBit_lt_two_pow (Nat.lt_of_lt_of_le (show x / 2 < 2 ^ 63 by omega) (Nat.pow_le_pow_right (by decide) (by omega)))
      simp [h, this]
theorem andnot1 (x : Int) (h : 0 ≤ x ∧ x < 18446744073709551616) : bits BinOp.andNot .u64 x 1 = x - x % 2 := by
  obtain ⟨x, rfl⟩ := Int.eq_ofNat_of_zero_le h.1
  have hx : x < 18446744073709551616 := by have := h.2; omega
  show IntKind.u64.wrap ((BitVec.ofInt 64 (x : Int) &&& ~~~(BitVec.ofInt 64 1)).toNat : Int) = _
  rw [BitVec.ofInt_natCast, BitVec.toNat_and, BitVec.toNat_ofNat, Nat.mod_eq_of_lt hx, show (~~~(BitVec.ofInt 64 1)).toNat = 18446744073709551614 from by decide, andnot_nat x hx, IntWalk.u64_in _ (by omega)]
  omega

set_option linter.unusedSimpArgs false in
set_option maxRecDepth 100000 in
set_option maxHeartbeats 3200000 in
theorem evFormed_any (e : Ev) (w : World) (he : e.Wd) : Calls Try.prog 137 #[evV e] w fun e' w' => e' = .returned (.bool (decide (Fm e))) ∧ Below w.heap.size w w' := by
  obtain ⟨th, k, a, x, o, er⟩ := e
  have hB : ∀ o1 o2 : Obj, Below w.heap.size w ((w.alloc o1).alloc o2) := fun o1 o2 => ((Below.refl w.heap.size w).alloc (Nat.le_refl _) o1).alloc (by simp) o2
  have HB := Lib.hid hB
  have HD := Lib.hid (andnot1 x he.2)
  by_cases h1 : (0 ≤ th ∧ th < 8) ∧ (1 ≤ k ∧ k ≤ 12)
  · obtain ⟨⟨h1, h2⟩, h3⟩ := h1
    have e1 : decide (Fm ⟨th, k, a, x, o, er⟩) = decide (Rest ⟨th, k, a, x, o, er⟩) := by simp [Fm, h1, h2, h3.1, h3.2]
    rw [e1]
    show Calls Try.prog 137 #[.agg #[.int .i64 th, .int .i64 k, .int .u64 a, .int .u64 x, .bool o, .int .i64 er]] w fun e' w' => e' = .returned (.bool (decide (Rest ⟨th, k, a, x, o, er⟩))) ∧ Below w.heap.size w w'
    go_enter Try.func137, Try.ntmps137
    rcases kinds h3 with rfl | rfl | rfl | rfl | rfl | rfl | rfl | rfl | rfl | rfl | rfl | rfl
    all_goals
      clear e1 h3 hB
      go_wp2
      all_goals try (go_region; go_wp2)
      all_goals
        go_ret
        refine ⟨?_, by go_grown⟩
        have hd := HD.out
        simp_all [Rest, PairK, SingleK]
        try omega
  · have e1 : decide (Fm ⟨th, k, a, x, o, er⟩) = false := by
      refine decide_eq_false ?_
      rintro ⟨h2, h3, _⟩
      exact h1 ⟨h2, h3⟩
    rw [e1]
    show Calls Try.prog 137 #[.agg #[.int .i64 th, .int .i64 k, .int .u64 a, .int .u64 x, .bool o, .int .i64 er]] w fun e' w' => e' = .returned (.bool false) ∧ Below w.heap.size w w'
    go_enter Try.func137, Try.ntmps137
    by_cases a1 : th < 0
    · go_wp2
      go_ret
      exact ⟨rfl, by go_grown⟩
    · by_cases a2 : 8 ≤ th
      · go_wp2
        go_ret
        exact ⟨rfl, by go_grown⟩
      · have hk : k < 1 ∨ 12 < k := by omega
        have b1 : (k == 1) = false := by simp; omega
        have b2 : (k == 2) = false := by simp; omega
        have b3 : (k == 3) = false := by simp; omega
        have b4 : (k == 4) = false := by simp; omega
        have b5 : (k == 5) = false := by simp; omega
        have b6 : (k == 6) = false := by simp; omega
        have b7 : (k == 7) = false := by simp; omega
        have b8 : (k == 8) = false := by simp; omega
        have b9 : (k == 9) = false := by simp; omega
        have b10 : (k == 10) = false := by simp; omega
        have b11 : (k == 11) = false := by simp; omega
        have b12 : (k == 12) = false := by simp; omega
        clear hk h1 e1
        go_wp2
        go_ret
        exact ⟨rfl, by go_grown⟩
end Go.Proofs.Ytjifpjfinffamaa
