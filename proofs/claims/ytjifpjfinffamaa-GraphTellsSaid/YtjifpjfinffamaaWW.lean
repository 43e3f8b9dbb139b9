/- Walk: the law's own examples (works). -/
import Derived.Test.YtjifpjfinffamaaM6
import Derived.Test.YtjifpjfinffamaaN1
import Derived.Test.YtjifpjfinffamaaW9
import Derived.Test.YtjifpjfinffamaaW3
namespace Go.Proofs.Ytjifpjfinffamaa
open Go.RowKit

theorem RE_lit (w : World) (l : List E) (hl : l.length ≤ 100) : RE (w.alloc (.cells (l.flatMap ecells).toArray 69)) (w.alloc (.cells (l.flatMap ecells).toArray 69)).heap.size (some ⟨w.heap.size, 0, none⟩) l := by
  refine RE.of_own (more := []) (base := 0) (c := l.length) (n := l.length) ?_
  rw [List.append_nil]
  exact World.ownsRow_lit w (l.flatMap ecells).toArray l.length (Nat.zero_le _) (by unfold maxLen; omega) (by rw [List.size_toArray, ecells_len])
theorem RK_lit (w : World) (xs : List Int) (hl : xs.length ≤ 100) : RK .i64 (w.alloc (.cells (ints xs).toArray 3)) (w.alloc (.cells (ints xs).toArray 3)).heap.size (some ⟨w.heap.size, 0, none⟩) xs := by
  refine RK.of_own (base := 0) (e := 3) (c := xs.length) ?_
  exact World.ownsRow_lit w (ints xs).toArray xs.length (Nat.zero_le _) (by unfold maxLen; omega) (by simp [ints])
theorem needW_C {xs : List Int} {er : Int} (h : NeedW 3 lC xs er) : xs = [0, 1] ∧ er = 0 := by
  rcases h with ⟨h1, h2, _⟩ | ⟨rfl, order, h2, rfl⟩
  · exact absurd (h2.unique order_C).2 h1
  · obtain ⟨rfl, _⟩ := h2.unique order_C
    rw [need_C]
    refine ⟨?_, rfl⟩
    have hp : (srt [1, 0]).Perm [0, 1] := (srt_perm [1, 0]).trans (List.Perm.swap _ _ _)
    exact List.Perm.eq_of_pairwise (le := (· ≤ ·)) (fun a b _ _ h1 h2 => Int.le_antisymm h1 h2) (srt_sorted [1, 0]) (by decide) hp

set_option linter.unusedSimpArgs false in
set_option maxRecDepth 100000 in
set_option maxHeartbeats 3200000 in
theorem works_any (w : World) : Calls Try.prog 30 #[] w fun e w' => e = .returned (.bool true) ∧ Below w.heap.size w w' := by
  go_enter Try.func30, Try.ntmps30
  go_wp2_with (go_at_call 39; refine halt_ ?_)
  refine Halt_.go ?_
  refine (order_any 4 (some ⟨w.heap.size, 0, none⟩) 3 lA _ (by decide) (RE_lit w lA (by decide))).mono ?_
  rintro e w1 ⟨A1, c1, xs, er, rfl, hS, hown1, hb1⟩
  obtain ⟨rfl, rfl⟩ := hS.unique order_A
  have hB1 : Below w.heap.size w w1 := ((Below.refl _ w).alloc (Nat.le_refl _) _).trans (hb1.mono (by simp))
  have HO1 := Lib.hid hown1
  have HB1 := Lib.hid hB1
  clear hS hown1 hb1 hB1
  go_wp2_with (go_at_call 24; refine halt_ ?_)
  refine Halt_.go ?_
  refine (round_any 3 (some ⟨w1.heap.size, 0, none⟩) 4 lB _ (by decide) (RE_lit w1 lB (by decide))).mono ?_
  rintro e w2 ⟨A2, c2, xs, bo, er, rfl, hS, hown2, hb2⟩
  obtain ⟨rfl, rfl, rfl⟩ := hS.unique round_B
  have hB12 : Below w1.heap.size w1 w2 := ((Below.refl _ w1).alloc (Nat.le_refl _) _).trans (hb2.mono (by simp))
  have HO2 := Lib.hid hown2
  have HO12 := Lib.hid (HO1.out.below (Nat.le_refl _) hB12)
  have HB2 := Lib.hid (HB1.out.trans (hB12.mono HB1.out.size))
  clear hS hown2 hb2 hB12 HO1 HB1
  go_wp2_with (go_at_call 36; refine halt_ ?_)
  refine Halt_.go ?_
  refine (needed_any 3 (some ⟨w2.heap.size, 0, none⟩) 3 lC _ (by decide) (RE_lit w2 lC (by decide))).mono ?_
  rintro e w3 ⟨A3, c3, xs, er, rfl, hS, hown3, hb3⟩
  obtain ⟨rfl, rfl⟩ := needW_C hS
  have hB23 : Below w2.heap.size w2 w3 := ((Below.refl _ w2).alloc (Nat.le_refl _) _).trans (hb3.mono (by simp))
  have HO3 := Lib.hid hown3
  have HO13 := Lib.hid (HO12.out.below (Nat.le_refl _) hB23)
  have HO23 := Lib.hid (HO2.out.below (Nat.le_refl _) hB23)
  have HB3 := Lib.hid (HB2.out.trans (hB23.mono HB2.out.size))
  clear hS hown3 hb3 hB23 HO2 HO12 HB2
  have q1 : intsB [2, 3, 0, 1] [2, 3, 0, 1] = true := by decide
  have q2 : intsB [0, 3] [0, 3] = true := by decide
  have q3 : intsB [0, 1] [0, 1] = true := by decide
  go_wp2_with (go_at_call 26; refine halt_ ?_)
  refine Halt_.go ?_
  have hba := (Below.refl w3.heap.size w3).alloc (Nat.le_refl _) (.cells (ints [2, 3, 0, 1]).toArray 3)
  refine (ints_any A1 (some ⟨w3.heap.size, 0, none⟩) c1 4 [2, 3, 0, 1] [2, 3, 0, 1] _ (HO13.out.below (Nat.le_refl _) hba).reads (RK_lit w3 [2, 3, 0, 1] (by decide)) (by decide)).mono ?_
  rintro e w4 ⟨rfl, m1, hw4⟩
  have hB34 : Below w3.heap.size w3 w4 := by rw [hw4]; exact bdrewN hba _
  have HO24 := Lib.hid (HO23.out.below (Nat.le_refl _) hB34)
  have HO34 := Lib.hid (HO3.out.below (Nat.le_refl _) hB34)
  have HB4 := Lib.hid (HB3.out.trans (hB34.mono HB3.out.size))
  clear hw4 hB34 hba HO13 HO23 HO3 HB3
  rw [q1]
  go_wp2_with (first
    | (go_at_call 27; refine (num_any _ _).mono ?_; rintro e w5 ⟨rfl, rfl⟩)
    | (go_at_call 26; refine halt_ ?_))
  refine Halt_.go ?_
  have hba := (Below.refl w4.heap.size w4).alloc (Nat.le_refl _) (.cells (ints [0, 3]).toArray 3)
  refine (ints_any A2 (some ⟨w4.heap.size, 0, none⟩) c2 2 [0, 3] [0, 3] _ (HO24.out.below (Nat.le_refl _) hba).reads (RK_lit w4 [0, 3] (by decide)) (by decide)).mono ?_
  rintro e w5 ⟨rfl, m2, hw5⟩
  have hB45 : Below w4.heap.size w4 w5 := by rw [hw5]; exact bdrewN hba _
  have HO35 := Lib.hid (HO34.out.below (Nat.le_refl _) hB45)
  have HB5 := Lib.hid (HB4.out.trans (hB45.mono HB4.out.size))
  clear hw5 hB45 hba HO24 HO34 HB4
  rw [q2]
  go_wp2_with (first
    | (go_at_call 27; refine (num_any _ _).mono ?_; rintro e w6 ⟨rfl, rfl⟩)
    | (go_at_call 26; refine halt_ ?_))
  refine Halt_.go ?_
  have hba := (Below.refl w5.heap.size w5).alloc (Nat.le_refl _) (.cells (ints [0, 1]).toArray 3)
  refine (ints_any A3 (some ⟨w5.heap.size, 0, none⟩) c3 2 [0, 1] [0, 1] _ (HO35.out.below (Nat.le_refl _) hba).reads (RK_lit w5 [0, 1] (by decide)) (by decide)).mono ?_
  rintro e w6 ⟨rfl, m3, hw6⟩
  have hB56 : Below w5.heap.size w5 w6 := by rw [hw6]; exact bdrewN hba _
  have HB6 := Lib.hid (HB5.out.trans (hB56.mono HB5.out.size))
  clear hw6 hB56 hba HO35 HB5
  rw [q3]
  go_wp2_with (first
    | (go_at_call 27; refine (num_any _ _).mono ?_; rintro e w7 ⟨rfl, rfl⟩)
    | (go_at_call 32; refine halt_ ?_))
  refine Halt_.go ?_
  have hs : (w6.alloc (.cells (ints [1, 0]).toArray 3)).heap.size = w6.heap.size + 1 := by simp
  have h7 := RE_lit (w6.alloc (.cells (ints [1, 0]).toArray 3)) lD (by decide)
  rw [hs] at h7
  have hb7 := (Below.refl (w6.alloc (.cells (ints [1, 0]).toArray 3)).heap.size (w6.alloc (.cells (ints [1, 0]).toArray 3))).alloc (Nat.le_refl _) (.cells (lD.flatMap ecells).toArray 69)
  have h8 := ((RK_lit w6 [1, 0] (by decide)).below hb7).more hb7.size
  have hb67 := ((Below.refl w6.heap.size w6).alloc (Nat.le_refl _) (.cells (ints [1, 0]).toArray 3)).alloc (by simp) (.cells (lD.flatMap ecells).toArray 69)
  refine (keeps_any 2 (some ⟨w6.heap.size, 0, none⟩) 2 [1, 0] (some ⟨w6.heap.size + 1, 0, none⟩) 1 lD _ (by decide) h7 h8).mono ?_
  rintro e w8 ⟨b, rfl, hk, hb8⟩
  obtain rfl := hk.unique keeps_D
  have HB8 := Lib.hid (HB6.out.trans ((hb67.trans (hb8.mono hb67.size)).mono HB6.out.size))
  clear hs h7 hb7 h8 hb67 hk hb8 HB6
  go_wp2
  go_ret
  exact ⟨rfl, HB8.out⟩
end Go.Proofs.Ytjifpjfinffamaa
