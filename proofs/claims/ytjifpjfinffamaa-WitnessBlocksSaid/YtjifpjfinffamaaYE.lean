/- Walks: what compares two blocks in witness.order; the library's sort by a function, laid. -/
import Derived.Shelf.SlSortCmp.NoneTotal
import Derived.Test.YtjifpjfinffamaaYB
import Derived.Test.YtjifpjfinffamaaY8
import Derived.StillTailTactics
import Derived.BigRegion
import Derived.Handy
namespace Go.Proofs.Ytjifpjfinffamaa
open Go.RowKit Go.Sort Go.Shelf
def lays94_ren : Go.Shelf.Ren := ⟨fun | 6 => 94 | 15 => 103 | 14 => 119 | 28 => 131 | 29 => 132 | 20 => 138 | 21 => 139 | 22 => 140 | 23 => 141 | 24 => 142 | 25 => 143 | 26 => 144 | 27 => 145 | 46 => 159 | 47 => 147 | 48 => 148 | 49 => 160 | 50 => 161 | 57 => 166 | n => n, fun | 22 => 31 | 24 => 3 | 25 => 155 | 3 => 3 | 39 => 160 | 0 => 0 | 53 => 206 | 55 => 40 | 4 => 4 | 46 => 200 | 45 => 199 | 50 => 148 | 5 => 5 | 9 => 9 | 66 => 221 | 70 => 225 | 76 => 234 | 77 => 235 | n => n, fun | n => n⟩
theorem lays94 : Go.Proofs.SlLaysF.n6 Try.prog lays94_ren := {
  mixed := by kernel_rfl
  f6 := ⟨Try.f94.name, by decide, Try.func94.trans (congrArg some (by kernel_rfl))⟩
  f14 := ⟨Try.f119.name, by decide, Try.func119.trans (congrArg some (by kernel_rfl))⟩
  f15 := Try.func103.trans (congrArg some (by kernel_rfl))
  f20 := ⟨Try.f138.name, by decide, Try.func138.trans (congrArg some (by kernel_rfl))⟩
  f21 := ⟨Try.f139.name, by decide, Try.func139.trans (congrArg some (by kernel_rfl))⟩
  f22 := ⟨Try.f140.name, by decide, Try.func140.trans (congrArg some (by kernel_rfl))⟩
  f23 := ⟨Try.f141.name, by decide, Try.func141.trans (congrArg some (by kernel_rfl))⟩
  f24 := ⟨Try.f142.name, by decide, Try.func142.trans (congrArg some (by kernel_rfl))⟩
  f25 := ⟨Try.f143.name, by decide, Try.func143.trans (congrArg some (by kernel_rfl))⟩
  f26 := ⟨Try.f144.name, by decide, Try.func144.trans (congrArg some (by kernel_rfl))⟩
  f27 := ⟨Try.f145.name, by decide, Try.func145.trans (congrArg some (by kernel_rfl))⟩
  f28 := Try.func131.trans (congrArg some (by kernel_rfl))
  f29 := Try.func132.trans (congrArg some (by kernel_rfl))
  f46 := ⟨Try.f159.name, by decide, Try.func159.trans (congrArg some (by kernel_rfl))⟩
  f47 := Try.func147.trans (congrArg some (by kernel_rfl))
  f48 := Try.func148.trans (congrArg some (by kernel_rfl))
  f49 := ⟨Try.f160.name, by decide, Try.func160.trans (congrArg some (by kernel_rfl))⟩
  f50 := ⟨Try.f161.name, by decide, Try.func161.trans (congrArg some (by kernel_rfl))⟩
  f57 := ⟨Try.f166.name, by decide, Try.func166.trans (congrArg some (by kernel_rfl))⟩
  t0 := Try.underlying0
  a0 := Try.isAgg0
  z0 := Try.sizeOf0
  v0 := Try.zeroValue0
  t3 := Try.underlying3
  a3 := Try.isAgg3
  z3 := Try.sizeOf3
  v3 := Try.zeroValue3
  t4 := Try.underlying4
  a4 := Try.isAgg4
  z4 := Try.sizeOf4
  v4 := Try.zeroValue4
  t5 := Try.underlying5
  a5 := Try.isAgg5
  z5 := Try.sizeOf5
  v5 := Try.zeroValue5
  t9 := Try.underlying9
  a9 := Try.isAgg9
  z9 := Try.sizeOf9
  v9 := Try.zeroValue9
  t22 := Try.underlying31
  a22 := Try.isAgg31
  z22 := Try.sizeOf31
  v22 := Try.zeroValue31
  a24 := Try.isAgg3
  z24 := Try.sizeOf3
  t25 := Try.underlying155
  a25 := Try.isAgg155
  z25 := Try.sizeOf155
  v25 := Try.zeroValue155
  t39 := Try.underlying160
  a39 := Try.isAgg160
  z39 := Try.sizeOf160
  v39 := Try.zeroValue160
  t45 := Try.underlying199
  a45 := Try.isAgg199
  z45 := Try.sizeOf199
  v45 := Try.zeroValue199
  t46 := Try.underlying200
  a46 := Try.isAgg200
  z46 := Try.sizeOf200
  v46 := Try.zeroValue200
  t50 := Try.underlying148
  a50 := Try.isAgg148
  z50 := Try.sizeOf148
  v50 := Try.zeroValue148
  t53 := Try.underlying206
  a53 := Try.isAgg206
  z53 := Try.sizeOf206
  v53 := Try.zeroValue206
  t55 := Try.underlying40
  a55 := Try.isAgg40
  z55 := Try.sizeOf40
  v55 := Try.zeroValue40
  t66 := Try.underlying221
  a66 := Try.isAgg221
  z66 := Try.sizeOf221
  v66 := Try.zeroValue221
  t70 := Try.underlying225
  a70 := Try.isAgg225
  z70 := Try.sizeOf225
  v70 := Try.zeroValue225
  t76 := Try.underlying234
  a76 := Try.isAgg234
  z76 := Try.sizeOf234
  v76 := Try.zeroValue234
  t77 := Try.underlying235
  a77 := Try.isAgg235
  z77 := Try.sizeOf235
  v77 := Try.zeroValue235 }

theorem nan64 (x : Int) (w : World) : Calls Try.prog 120 #[.int .u64 x] w fun e w' => e = .returned (.bool false) ∧ w' = w := by
  have h : (x != x) = false := by simp
  go_enter Try.func120, Try.ntmps120
  go_wp2
  go_ret
  exact ⟨rfl, rfl⟩
theorem nanInt (x : Int) (w : World) : Calls Try.prog 121 #[.int .i64 x] w fun e w' => e = .returned (.bool false) ∧ w' = w := by
  have h : (x != x) = false := by simp
  go_enter Try.func121, Try.ntmps121
  go_wp2
  go_ret
  exact ⟨rfl, rfl⟩
theorem cmp64_any (x y : Int) (w : World) : Calls Try.prog 97 #[.int .u64 x, .int .u64 y] w fun e w' => e = .returned (.int .i64 (cmp3 x y)) ∧ w' = w := by
  have hor : x < y ∧ cmp3 x y = -1 ∨ ¬ x < y ∧ y < x ∧ cmp3 x y = 1 ∨ ¬ x < y ∧ ¬ y < x ∧ cmp3 x y = 0 := by
    unfold cmp3
    by_cases h1 : x < y
    · exact .inl ⟨h1, if_pos h1⟩
    · by_cases h2 : x = y
      · exact .inr (.inr ⟨h1, by omega, by rw [if_neg h1, if_pos h2]⟩)
      · exact .inr (.inl ⟨h1, by omega, by rw [if_neg h1, if_neg h2]⟩)
  rcases hor with ⟨h1, hc⟩ | ⟨h1, h2, hc⟩ | ⟨h1, h2, hc⟩
  all_goals
    rw [hc]
    clear hc
    go_enter Try.func97, Try.ntmps97
    go_wp2_with (go_at_call 120; refine (nan64 _ _).mono ?_; rintro e w' ⟨rfl, rfl⟩)
    go_ret
    exact ⟨rfl, rfl⟩
theorem cmpInt_any (x y : Int) (w : World) : Calls Try.prog 98 #[.int .i64 x, .int .i64 y] w fun e w' => e = .returned (.int .i64 (cmp3 x y)) ∧ w' = w := by
  have hor : x < y ∧ cmp3 x y = -1 ∨ ¬ x < y ∧ y < x ∧ cmp3 x y = 1 ∨ ¬ x < y ∧ ¬ y < x ∧ cmp3 x y = 0 := by
    unfold cmp3
    by_cases h1 : x < y
    · exact .inl ⟨h1, if_pos h1⟩
    · by_cases h2 : x = y
      · exact .inr (.inr ⟨h1, by omega, by rw [if_neg h1, if_pos h2]⟩)
      · exact .inr (.inl ⟨h1, by omega, by rw [if_neg h1, if_neg h2]⟩)
  rcases hor with ⟨h1, hc⟩ | ⟨h1, h2, hc⟩ | ⟨h1, h2, hc⟩
  all_goals
    rw [hc]
    clear hc
    go_enter Try.func98, Try.ntmps98
    go_wp2_with (go_at_call 121; refine (nanInt _ _).mono ?_; rintro e w' ⟨rfl, rfl⟩)
    go_ret
    exact ⟨rfl, rfl⟩

/-- the first of three that is not zero -/
def orV (a b c : Int) : Int := if a ≠ 0 then a else if b ≠ 0 then b else c
theorem or_any (g : Nat) (a b c : Int) (w : World) (h0 : w.cell? ⟨g, 0, none⟩ = some (.int .i64 a)) (h1 : w.cell? ⟨g, 1, none⟩ = some (.int .i64 b)) (h2 : w.cell? ⟨g, 2, none⟩ = some (.int .i64 c)) :
    Calls Try.prog 96 #[.slice (some ⟨g, 0, none⟩) 3 3] w fun e w' => e = .returned (.int .i64 (orV a b c)) ∧ w' = w := by
  obtain ⟨R, hR⟩ : ∃ R, R = orV a b c := ⟨_, rfl⟩
  rw [← hR]
  have HR := Lib.hid hR
  clear hR
  go_enter Try.func96, Try.ntmps96
  go_wp2
  go_loopw [8] (fun i wr => ∃ k : Nat, k ≤ 3 ∧ i = .int .i64 k ∧ Hid ((k = 0 ∨ k = 1 ∧ a = 0 ∨ k = 2 ∧ a = 0 ∧ b = 0 ∨ k = 3 ∧ a = 0 ∧ b = 0 ∧ c = 0)) ∧ wr = w) (fun i _ => 3 - (intOf i).toNat)
  case atStart => exact ⟨0, by omega, rfl, .inl rfl, rfl⟩
  case round =>
    obtain ⟨k, hk, rfl, HK, rfl⟩ := hrel
    rcases HK.out with rfl | ⟨rfl, rfl⟩ | ⟨rfl, rfl, rfl⟩ | ⟨rfl, rfl, rfl, rfl⟩
    · by_cases ha : a = 0
      · subst ha
        go_wp2
        go_roundw
        case rel => exact ⟨1, by omega, rfl, Lib.hid (by simp), trivial⟩
        case measure => simp [intOf]
      · have ha' : (a != 0) = true := by simpa using ha
        have hr : R = a := by rw [HR.out]; simp [orV, ha]
        subst hr
        clear ha HR
        go_wp2
        go_ret
        exact ⟨rfl, rfl⟩
    · by_cases ha : b = 0
      · subst ha
        go_wp2
        go_roundw
        case rel => exact ⟨2, by omega, rfl, Lib.hid (by simp), trivial⟩
        case measure => simp [intOf]
      · have ha' : (b != 0) = true := by simpa using ha
        have hr : R = b := by rw [HR.out]; simp [orV, ha]
        subst hr
        clear ha HR
        go_wp2
        go_ret
        exact ⟨rfl, rfl⟩
    · by_cases ha : c = 0
      · subst ha
        go_wp2
        go_roundw
        case rel => exact ⟨3, by omega, rfl, Lib.hid (by simp), trivial⟩
        case measure => simp [intOf]
      · have ha' : (c != 0) = true := by simpa using ha
        have hr : R = c := by rw [HR.out]; simp [orV]
        subst hr
        clear ha HR
        go_wp2
        go_ret
        exact ⟨rfl, rfl⟩
    · have hr : R = 0 := by rw [HR.out]; simp [orV]
      subst hr
      clear HR
      go_wp2
      go_ret
      exact ⟨rfl, rfl⟩

/-- first: what is Writing comes first -/
theorem first_any (B1 g i n c : Nat) (b : Bl) (r t : Value) (w : World) (hb : w.cell? ⟨B1, 0, none⟩ = some (.slice (some ⟨g, 0, none⟩) n c)) (hc : BlC w g i b r t) (hi : i < n) :
    Calls Try.prog 93 #[.int .i64 (i : Int), .pointer (some ⟨B1, 0, none⟩)] w fun e w' => e = .returned (.int .i64 (fstB b)) ∧ w' = w := by
  have c5 := hc.c5
  have i1 : (0 : Int) ≤ (i : Int) := by omega
  have i2 : (i : Int) < (n : Int) := by omega
  obtain ⟨th, kd, f, la, nm, bw, er, rd, wt⟩ := b
  unfold fstB
  simp only at c5 ⊢
  clear hc
  cases bw
  all_goals
    simp only [if_true, if_false, Bool.false_eq_true]
    go_enter Try.func93, Try.ntmps93
    go_wp2
    go_ret
    exact ⟨rfl, rfl⟩

set_option linter.unusedSimpArgs false in
set_option maxRecDepth 100000 in
set_option maxHeartbeats 12800000 in
theorem cmpF_any (B1 B2 B3 g gl i k n c cl : Nat) (bi bk : Bl) (r t r' t' : Value) (xi xk : Int) (w : World) (hb1 : w.cell? ⟨B1, 0, none⟩ = some (.slice (some ⟨g, 0, none⟩) n c)) (hb2 : w.cell? ⟨B2, 0, none⟩ = some (.func (.func 93) #[] #[.pointer (some ⟨B1, 0, none⟩)])) (hb3 : w.cell? ⟨B3, 0, none⟩ = some (.slice (some ⟨gl, 0, none⟩) n cl))
    (hi : i < n) (hk : k < n) (hci : BlC w g i bi r t) (hck : BlC w g k bk r' t') (hli : w.cell? ⟨gl, i, none⟩ = some (.int .i64 xi)) (hlk : w.cell? ⟨gl, k, none⟩ = some (.int .i64 xk)) :
    Calls Try.prog 95 #[.int .i64 (i : Int), .int .i64 (k : Int), .pointer (some ⟨B1, 0, none⟩), .pointer (some ⟨B2, 0, none⟩), .pointer (some ⟨B3, 0, none⟩)] w fun e w' =>
      e = .returned (.int .i64 (orV (cmp3 bi.num bk.num) (cmp3 (fstB bi) (fstB bk)) (cmp3 xi xk))) ∧ w' = (w.alloc (.cells #[.int .i64 (cmp3 bi.num bk.num), .int .i64 (cmp3 (fstB bi) (fstB bk)), .int .i64 (cmp3 xi xk)] 3)).drew := by
  have c4 := hci.c4
  have d4 := hck.c4
  have HF1 := fun W (hW : W = w.drew) => first_any B1 g i n c bi r t W (by rw [hW]; exact hb1) (by rw [hW]; exact ⟨hci.c0, hci.c1, hci.c2, hci.c3, hci.c4, hci.c5, hci.c6, hci.c7, hci.c8⟩) hi
  have HF2 := fun W (hW : W = w.drew) => first_any B1 g k n c bk r' t' W (by rw [hW]; exact hb1) (by rw [hW]; exact ⟨hck.c0, hck.c1, hck.c2, hck.c3, hck.c4, hck.c5, hck.c6, hck.c7, hck.c8⟩) hk
  have i1 : (0 : Int) ≤ (i : Int) := by omega
  have i2 : (i : Int) < (n : Int) := by omega
  have i3 : (0 : Int) ≤ (k : Int) := by omega
  have i4 : (k : Int) < (n : Int) := by omega
  have H1 := Lib.hid HF1
  have H2 := Lib.hid HF2
  clear HF1 HF2 hci hck
  go_enter Try.func95, Try.ntmps95
  go_wp2
  refine wp_region_still_tail 27 (by kernel_rfl) (by kernel_rfl) ?_
  simp only [List.take_succ_cons, List.take_zero, List.drop_succ_cons, List.drop_zero]
  repeat still_step
  still_call (cmp64_any _ _ _)
  repeat still_step
  still_call (H1.out _ rfl)
  repeat still_step
  still_call (H2.out _ rfl)
  repeat still_step
  still_call (cmpInt_any _ _ _)
  repeat still_step
  still_call (cmpInt_any _ _ _)
  repeat still_step
  refine wpStill_nil ?_
  change wpList _ _ _ _ _ w.drew
  go_wp2_with (go_at_call 96; refine halt_ ?_)
  refine Halt_.go ?_
  have hh := heap_alloc_new w (.cells #[.int .i64 (cmp3 bi.num bk.num), .int .i64 (cmp3 (fstB bi) (fstB bk)), .int .i64 (cmp3 xi xk)] 3)
  refine (or_any w.heap.size (cmp3 bi.num bk.num) (cmp3 (fstB bi) (fstB bk)) (cmp3 xi xk) _ ?_ ?_ ?_).mono ?_
  · exact (cell_of_row (w.alloc _) _ 0 _ 3 (0, 0) hh).trans rfl
  · exact (cell_of_row (w.alloc _) _ 1 _ 3 (0, 0) hh).trans rfl
  · exact (cell_of_row (w.alloc _) _ 2 _ 3 (0, 0) hh).trans rfl
  rintro e' w' ⟨rfl, rfl⟩
  go_wp2
  go_ret
  exact ⟨rfl, rfl⟩
theorem orV_cfB (bl : List Bl) (lk : List Nat) (i k : Nat) : orV (cmp3 (blAt bl i).num (blAt bl k).num) (cmp3 (fstB (blAt bl i)) (fstB (blAt bl k))) (cmp3 (lk.getD i 0 : Nat) (lk.getD k 0 : Nat)) = cfB bl lk i k := rfl
end Go.Proofs.Ytjifpjfinffamaa
