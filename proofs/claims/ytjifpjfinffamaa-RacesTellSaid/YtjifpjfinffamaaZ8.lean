/- Texts YE YD SR YF YG YC, laid together. -/
import Derived.Test.YtjifpjfinffamaaZ6
import Derived.Test.YtjifpjfinffamaaZ7
import Derived.Shelf.SlSortCmp.NoneTotal
import Derived.StillTailTactics
import Derived.BigRegion
import Derived.Handy
import Derived.BigQuiet
import Derived.Deep.Cut
import Derived.Sort.Grow
import Derived.Sort.Row
import Derived.Laws.EntriesVeiled
section
namespace Go.Proofs.Ytjifpjfinffamaa
open Go.RowKit Go.Sort Go.Shelf
def lays94_ren : Go.Shelf.Ren := ⟨fun | 6 => 94 | 15 => 103 | 14 => 119 | 28 => 131 | 29 => 132 | 20 => 138 | 21 => 139 | 22 => 140 | 23 => 141 | 24 => 142 | 25 => 143 | 26 => 144 | 27 => 145 | 46 => 159 | 47 => 147 | 48 => 148 | 49 => 160 | 50 => 161 | 57 => 166 | n => n, fun | 22 => 31 | 24 => 3 | 25 => 155 | 3 => 3 | 39 => 160 | 0 => 0 | 53 => 206 | 55 => 40 | 4 => 4 | 46 => 200 | 45 => 199 | 50 => 148 | 5 => 5 | 9 => 9 | 66 => 221 | 70 => 225 | 76 => 234 | 77 => 235 | n => n, fun | n => n⟩
theorem lays94 : Go.Proofs.SlLaysF.n6 Try.prog lays94_ren := {
  mixed := by kernel_rfl
  f6 := ⟨Try.f94.name, by decide, Try.func94.trans (congrArg some (by kernel_rfl))⟩
  f14 := ⟨Try.f119.name, by decide, Try.func119.trans (congrArg some (by kernel_rfl))⟩
  f15 := Try.func103.trans (congrArg some (by kernel_rfl))
  f20 := ⟨Try.f138.name, by decide, Try.func138.trans (congrArg some (by kernel_rfl))⟩
  f21 := ⟨Try.f139.name, by decide, Try.func139.trans (congrArg some (by kernel_rfl))⟩
  f22 := ⟨Try.f140.name, by decide, Try.func140.trans (congrArg some (by kernel_rfl))⟩
  f23 := ⟨Try.f141.name, by decide, Try.func141.trans (congrArg some (by kernel_rfl))⟩
  f24 := ⟨Try.f142.name, by decide, Try.func142.trans (congrArg some (by kernel_rfl))⟩
  f25 := ⟨Try.f143.name, by decide, Try.func143.trans (congrArg some (by kernel_rfl))⟩
  f26 := ⟨Try.f144.name, by decide, Try.func144.trans (congrArg some (by kernel_rfl))⟩
  f27 := ⟨Try.f145.name, by decide, Try.func145.trans (congrArg some (by kernel_rfl))⟩
  f28 := Try.func131.trans (congrArg some (by kernel_rfl))
  f29 := Try.func132.trans (congrArg some (by kernel_rfl))
  f46 := ⟨Try.f159.name, by decide, Try.func159.trans (congrArg some (by kernel_rfl))⟩
  f47 := Try.func147.trans (congrArg some (by kernel_rfl))
  f48 := Try.func148.trans (congrArg some (by kernel_rfl))
  f49 := ⟨Try.f160.name, by decide, Try.func160.trans (congrArg some (by kernel_rfl))⟩
  f50 := ⟨Try.f161.name, by decide, Try.func161.trans (congrArg some (by kernel_rfl))⟩
  f57 := ⟨Try.f166.name, by decide, Try.func166.trans (congrArg some (by kernel_rfl))⟩
  t0 := Try.underlying0
  a0 := Try.isAgg0
  z0 := Try.sizeOf0
  v0 := Try.zeroValue0
  t3 := Try.underlying3
  a3 := Try.isAgg3
  z3 := Try.sizeOf3
  v3 := Try.zeroValue3
  t4 := Try.underlying4
  a4 := Try.isAgg4
  z4 := Try.sizeOf4
  v4 := Try.zeroValue4
  t5 := Try.underlying5
  a5 := Try.isAgg5
  z5 := Try.sizeOf5
  v5 := Try.zeroValue5
  t9 := Try.underlying9
  a9 := Try.isAgg9
  z9 := Try.sizeOf9
  v9 := Try.zeroValue9
  t22 := Try.underlying31
  a22 := Try.isAgg31
  z22 := Try.sizeOf31
  v22 := Try.zeroValue31
  a24 := Try.isAgg3
  z24 := Try.sizeOf3
  t25 := Try.underlying155
  a25 := Try.isAgg155
  z25 := Try.sizeOf155
  v25 := Try.zeroValue155
  t39 := Try.underlying160
  a39 := Try.isAgg160
  z39 := Try.sizeOf160
  v39 := Try.zeroValue160
  t45 := Try.underlying199
  a45 := Try.isAgg199
  z45 := Try.sizeOf199
  v45 := Try.zeroValue199
  t46 := Try.underlying200
  a46 := Try.isAgg200
  z46 := Try.sizeOf200
  v46 := Try.zeroValue200
  t50 := Try.underlying148
  a50 := Try.isAgg148
  z50 := Try.sizeOf148
  v50 := Try.zeroValue148
  t53 := Try.underlying206
  a53 := Try.isAgg206
  z53 := Try.sizeOf206
  v53 := Try.zeroValue206
  t55 := Try.underlying40
  a55 := Try.isAgg40
  z55 := Try.sizeOf40
  v55 := Try.zeroValue40
  t66 := Try.underlying221
  a66 := Try.isAgg221
  z66 := Try.sizeOf221
  v66 := Try.zeroValue221
  t70 := Try.underlying225
  a70 := Try.isAgg225
  z70 := Try.sizeOf225
  v70 := Try.zeroValue225
  t76 := Try.underlying234
  a76 := Try.isAgg234
  z76 := Try.sizeOf234
  v76 := Try.zeroValue234
  t77 := Try.underlying235
  a77 := Try.isAgg235
  z77 := Try.sizeOf235
  v77 := Try.zeroValue235 }
theorem nan64 (x : Int) (w : World) : Calls Try.prog 120 #[.int .u64 x] w fun e w' => e = .returned (.bool false) ∧ w' = w := by
  have h : (x != x) = false := by simp
  go_enter Try.func120, Try.ntmps120
  go_wp2
  go_ret
  exact ⟨rfl, rfl⟩
theorem nanInt (x : Int) (w : World) : Calls Try.prog 121 #[.int .i64 x] w fun e w' => e = .returned (.bool false) ∧ w' = w := by
  have h : (x != x) = false := by simp
  go_enter Try.func121, Try.ntmps121
  go_wp2
  go_ret
  exact ⟨rfl, rfl⟩
theorem cmp64_any (x y : Int) (w : World) : Calls Try.prog 97 #[.int .u64 x, .int .u64 y] w fun e w' => e = .returned (.int .i64 (cmp3 x y)) ∧ w' = w := by
  have hor : x < y ∧ cmp3 x y = -1 ∨ ¬ x < y ∧ y < x ∧ cmp3 x y = 1 ∨ ¬ x < y ∧ ¬ y < x ∧ cmp3 x y = 0 := by
    unfold cmp3
    by_cases h1 : x < y
    · exact .inl ⟨h1, if_pos h1⟩
    · by_cases h2 : x = y
      · exact .inr (.inr ⟨h1, by omega, by rw [if_neg h1, if_pos h2]⟩)
      · exact .inr (.inl ⟨h1, by omega, by rw [if_neg h1, if_neg h2]⟩)
  rcases hor with ⟨h1, hc⟩ | ⟨h1, h2, hc⟩ | ⟨h1, h2, hc⟩
  all_goals
    rw [hc]
    clear hc
    go_enter Try.func97, Try.ntmps97
    go_wp2_with (go_at_call 120; refine (nan64 _ _).mono ?_; rintro e w' ⟨rfl, rfl⟩)
    go_ret
    exact ⟨rfl, rfl⟩
theorem cmpInt_any (x y : Int) (w : World) : Calls Try.prog 98 #[.int .i64 x, .int .i64 y] w fun e w' => e = .returned (.int .i64 (cmp3 x y)) ∧ w' = w := by
  have hor : x < y ∧ cmp3 x y = -1 ∨ ¬ x < y ∧ y < x ∧ cmp3 x y = 1 ∨ ¬ x < y ∧ ¬ y < x ∧ cmp3 x y = 0 := by
    unfold cmp3
    by_cases h1 : x < y
    · exact .inl ⟨h1, if_pos h1⟩
    · by_cases h2 : x = y
      · exact .inr (.inr ⟨h1, by omega, by rw [if_neg h1, if_pos h2]⟩)
      · exact .inr (.inl ⟨h1, by omega, by rw [if_neg h1, if_neg h2]⟩)
  rcases hor with ⟨h1, hc⟩ | ⟨h1, h2, hc⟩ | ⟨h1, h2, hc⟩
  all_goals
    rw [hc]
    clear hc
    go_enter Try.func98, Try.ntmps98
    go_wp2_with (go_at_call 121; refine (nanInt _ _).mono ?_; rintro e w' ⟨rfl, rfl⟩)
    go_ret
    exact ⟨rfl, rfl⟩
def orV (a b c : Int) : Int := if a ≠ 0 then a else if b ≠ 0 then b else c
theorem or_any (g : Nat) (a b c : Int) (w : World) (h0 : w.cell? ⟨g, 0, none⟩ = some (.int .i64 a)) (h1 : w.cell? ⟨g, 1, none⟩ = some (.int .i64 b)) (h2 : w.cell? ⟨g, 2, none⟩ = some (.int .i64 c)) :
    Calls Try.prog 96 #[.slice (some ⟨g, 0, none⟩) 3 3] w fun e w' => e = .returned (.int .i64 (orV a b c)) ∧ w' = w := by
  obtain ⟨R, hR⟩ : ∃ R, R = orV a b c := ⟨_, rfl⟩
  rw [← hR]
  have HR := Lib.hid hR
  clear hR
  go_enter Try.func96, Try.ntmps96
  go_wp2
  go_loopw [8] (fun i wr => ∃ k : Nat, k ≤ 3 ∧ i = .int .i64 k ∧ Hid ((k = 0 ∨ k = 1 ∧ a = 0 ∨ k = 2 ∧ a = 0 ∧ b = 0 ∨ k = 3 ∧ a = 0 ∧ b = 0 ∧ c = 0)) ∧ wr = w) (fun i _ => 3 - (intOf i).toNat)
  case atStart => exact ⟨0, by omega, rfl, .inl rfl, rfl⟩
  case round =>
    obtain ⟨k, hk, rfl, HK, rfl⟩ := hrel
    rcases HK.out with rfl | ⟨rfl, rfl⟩ | ⟨rfl, rfl, rfl⟩ | ⟨rfl, rfl, rfl, rfl⟩
    · by_cases ha : a = 0
      · subst ha
        go_wp2
        go_roundw
        case rel => exact ⟨1, by omega, rfl, Lib.hid (by simp), trivial⟩
        case measure => simp [intOf]
      · have ha' : (a != 0) = true := by simpa using ha
        have hr : R = a := by rw [HR.out]; simp [orV, ha]
        subst hr
        clear ha HR
        go_wp2
        go_ret
        exact ⟨rfl, rfl⟩
    · by_cases ha : b = 0
      · subst ha
        go_wp2
        go_roundw
        case rel => exact ⟨2, by omega, rfl, Lib.hid (by simp), trivial⟩
        case measure => simp [intOf]
      · have ha' : (b != 0) = true := by simpa using ha
        have hr : R = b := by rw [HR.out]; simp [orV, ha]
        subst hr
        clear ha HR
        go_wp2
        go_ret
        exact ⟨rfl, rfl⟩
    · by_cases ha : c = 0
      · subst ha
        go_wp2
        go_roundw
        case rel => exact ⟨3, by omega, rfl, Lib.hid (by simp), trivial⟩
        case measure => simp [intOf]
      · have ha' : (c != 0) = true := by simpa using ha
        have hr : R = c := by rw [HR.out]; simp [orV]
        subst hr
        clear ha HR
        go_wp2
        go_ret
        exact ⟨rfl, rfl⟩
    · have hr : R = 0 := by rw [HR.out]; simp [orV]
      subst hr
      clear HR
      go_wp2
      go_ret
      exact ⟨rfl, rfl⟩
theorem first_any (B1 g i n c : Nat) (b : Bl) (r t : Value) (w : World) (hb : w.cell? ⟨B1, 0, none⟩ = some (.slice (some ⟨g, 0, none⟩) n c)) (hc : BlC w g i b r t) (hi : i < n) :
    Calls Try.prog 93 #[.int .i64 (i : Int), .pointer (some ⟨B1, 0, none⟩)] w fun e w' => e = .returned (.int .i64 (fstB b)) ∧ w' = w := by
  have c5 := hc.c5
  have i1 : (0 : Int) ≤ (i : Int) := by omega
  have i2 : (i : Int) < (n : Int) := by omega
  obtain ⟨th, kd, f, la, nm, bw, er, rd, wt⟩ := b
  unfold fstB
  simp only at c5 ⊢
  clear hc
  cases bw
  all_goals
    simp only [if_true, if_false, Bool.false_eq_true]
    go_enter Try.func93, Try.ntmps93
    go_wp2
    go_ret
    exact ⟨rfl, rfl⟩
set_option linter.unusedSimpArgs false in
set_option maxRecDepth 100000 in
set_option maxHeartbeats 12800000 in
theorem cmpF_any (B1 B2 B3 g gl i k n c cl : Nat) (bi bk : Bl) (r t r' t' : Value) (xi xk : Int) (w : World) (hb1 : w.cell? ⟨B1, 0, none⟩ = some (.slice (some ⟨g, 0, none⟩) n c)) (hb2 : w.cell? ⟨B2, 0, none⟩ = some (.func (.func 93) #[] #[.pointer (some ⟨B1, 0, none⟩)])) (hb3 : w.cell? ⟨B3, 0, none⟩ = some (.slice (some ⟨gl, 0, none⟩) n cl))
    (hi : i < n) (hk : k < n) (hci : BlC w g i bi r t) (hck : BlC w g k bk r' t') (hli : w.cell? ⟨gl, i, none⟩ = some (.int .i64 xi)) (hlk : w.cell? ⟨gl, k, none⟩ = some (.int .i64 xk)) :
    Calls Try.prog 95 #[.int .i64 (i : Int), .int .i64 (k : Int), .pointer (some ⟨B1, 0, none⟩), .pointer (some ⟨B2, 0, none⟩), .pointer (some ⟨B3, 0, none⟩)] w fun e w' =>
      e = .returned (.int .i64 (orV (cmp3 bi.num bk.num) (cmp3 (fstB bi) (fstB bk)) (cmp3 xi xk))) ∧ w' = (w.alloc (.cells #[.int .i64 (cmp3 bi.num bk.num), .int .i64 (cmp3 (fstB bi) (fstB bk)), .int .i64 (cmp3 xi xk)] 3)).drew := by
  have c4 := hci.c4
  have d4 := hck.c4
  have HF1 := fun W (hW : W = w.drew) => first_any B1 g i n c bi r t W (by rw [hW]; exact hb1) (by rw [hW]; exact ⟨hci.c0, hci.c1, hci.c2, hci.c3, hci.c4, hci.c5, hci.c6, hci.c7, hci.c8⟩) hi
  have HF2 := fun W (hW : W = w.drew) => first_any B1 g k n c bk r' t' W (by rw [hW]; exact hb1) (by rw [hW]; exact ⟨hck.c0, hck.c1, hck.c2, hck.c3, hck.c4, hck.c5, hck.c6, hck.c7, hck.c8⟩) hk
  have i1 : (0 : Int) ≤ (i : Int) := by omega
  have i2 : (i : Int) < (n : Int) := by omega
  have i3 : (0 : Int) ≤ (k : Int) := by omega
  have i4 : (k : Int) < (n : Int) := by omega
  have H1 := Lib.hid HF1
  have H2 := Lib.hid HF2
  clear HF1 HF2 hci hck
  go_enter Try.func95, Try.ntmps95
  go_wp2
  refine wp_region_still_tail 27 (by kernel_rfl) (by kernel_rfl) ?_
  simp only [List.take_succ_cons, List.take_zero, List.drop_succ_cons, List.drop_zero]
  repeat still_step
  still_call (cmp64_any _ _ _)
  repeat still_step
  still_call (H1.out _ rfl)
  repeat still_step
  still_call (H2.out _ rfl)
  repeat still_step
  still_call (cmpInt_any _ _ _)
  repeat still_step
  still_call (cmpInt_any _ _ _)
  repeat still_step
  refine wpStill_nil ?_
  change wpList _ _ _ _ _ w.drew
  go_wp2_with (go_at_call 96; refine halt_ ?_)
  refine Halt_.go ?_
  have hh := heap_alloc_new w (.cells #[.int .i64 (cmp3 bi.num bk.num), .int .i64 (cmp3 (fstB bi) (fstB bk)), .int .i64 (cmp3 xi xk)] 3)
  refine (or_any w.heap.size (cmp3 bi.num bk.num) (cmp3 (fstB bi) (fstB bk)) (cmp3 xi xk) _ ?_ ?_ ?_).mono ?_
  · exact (cell_of_row (w.alloc _) _ 0 _ 3 (0, 0) hh).trans rfl
  · exact (cell_of_row (w.alloc _) _ 1 _ 3 (0, 0) hh).trans rfl
  · exact (cell_of_row (w.alloc _) _ 2 _ 3 (0, 0) hh).trans rfl
  rintro e' w' ⟨rfl, rfl⟩
  go_wp2
  go_ret
  exact ⟨rfl, rfl⟩
theorem orV_cfB (bl : List Bl) (lk : List Nat) (i k : Nat) : orV (cmp3 (blAt bl i).num (blAt bl k).num) (cmp3 (fstB (blAt bl i)) (fstB (blAt bl k))) (cmp3 (lk.getD i 0 : Nat) (lk.getD k 0 : Nat)) = cfB bl lk i k := rfl
end Go.Proofs.Ytjifpjfinffamaa
end
section
namespace Go.Proofs.Ytjifpjfinffamaa
open Go.RowKit
theorem own_at {w w' : World} {base B : Nat} {A : Option Addr} {c : Nat} {xs : List Nat} (h : OwnI w base A c (lks xs)) (hB : w.heap.size ≤ B) (hb : Below B w w') {i : Nat} (hi : i < xs.length) :
    ∃ g, A = some ⟨g, 0, none⟩ ∧ g < w.heap.size ∧ w'.cell? ⟨g, i, none⟩ = some (.int .i64 ((xs.getD i 0 : Nat) : Int)) := by
  obtain ⟨g, cap, hv, _, hlt⟩ := h.form (by rw [lks_len]; omega)
  have hA : A = some ⟨g, 0, none⟩ := by injection hv
  subst hA
  refine ⟨g, rfl, hlt, ?_⟩
  rw [hb.cell (p := ⟨g, i, none⟩) (show g < B by omega), h.cellAt i (by rw [lks_len]; omega)]
  simp [ints, lks, List.getD, List.getElem?_eq_getElem hi]
theorem BLk.at_ {w w' : World} {base B : Nat} {A : Option Addr} {c : Nat} {bl : List Bl} {hd : Nat → Value} {Al : Option Addr} {cl : Nat} {lk : List Nat} (h : BLk w base A c bl hd Al cl lk) (hl : lk.length = bl.length) (hB : w.heap.size ≤ B) (hb : Below B w w') {i : Nat} (hi : i < bl.length) :
    ∃ g gl Ar nr cr At nt ct, A = some ⟨g, 0, none⟩ ∧ Al = some ⟨gl, 0, none⟩ ∧ g < w.heap.size ∧ gl < w.heap.size ∧ BlC w' g i (blAt bl i) (.slice Ar nr cr) (.slice At nt ct) ∧ w'.cell? ⟨gl, i, none⟩ = some (.int .i64 ((lk.getD i 0 : Nat) : Int)) := by
  obtain ⟨gl, e1, e2, e3⟩ := own_at h.lk hB hb (i := i) (by omega)
  have hb' := h.hb.below hB hb
  obtain ⟨g, hA, _, hc, _, _⟩ := hb'.reads.at_ (Below.refl _ _) hi
  obtain ⟨Ar, cr, hr⟩ := own_shape (hb'.own (2 * i) (by omega))
  obtain ⟨At, ct, ht⟩ := own_shape (hb'.own (2 * i + 1) (by omega))
  rw [hr, ht] at hc
  refine ⟨g, gl, Ar, _, cr, At, _, ct, hA, e1, ?_, e2, hc, e3⟩
  subst hA
  exact (h.hb.row.lt g rfl).2
end Go.Proofs.Ytjifpjfinffamaa
end
section
namespace Go.Proofs.Ytjifpjfinffamaa
open Go.RowKit Go.Sort
theorem grow_old (w : World) (os : Array Obj) {k : Nat} (hk : k < w.heap.size) : (grow w os).heap[k]? = w.heap[k]? := by
  simp [grow, Array.getElem?_append, hk]
theorem sort_world {w : World} {base g c : Nat} {zs ys : List Int} (h : OwnI w base (some ⟨g, 0, none⟩) c zs) (hl : ys.length = zs.length) (n : Nat) (os : Array Obj) :
    OwnI (grow (putRow (Value.int .i64) (Sort.ahead w n) g 0 ys.toArray) os) base (some ⟨g, 0, none⟩) c ys ∧ w.grownBy (grow (putRow (Value.int .i64) (Sort.ahead w n) g 0 ys.toArray) os) (some g) := by
  have hgw := (h.lt g rfl).2
  have hsz : (putRow (Value.int .i64) (Sort.ahead w n) g 0 ys.toArray).heap.size = w.heap.size := by simp [putRow, mapBlock, Sort.ahead]
  have hoth : ∀ k, k ≠ g → (putRow (Value.int .i64) (Sort.ahead w n) g 0 ys.toArray).heap[k]? = w.heap[k]? := by
    intro k hk
    simp [putRow, mapBlock, Sort.ahead, Array.getElem?_modify, Ne.symm hk]
  constructor
  · unfold OwnI
    refine ⟨by simp [ints], ?_⟩
    rcases h.2 with ⟨h2, _⟩ | ⟨g', cap, cur, hv, hb, hh, hnc, hm, hcs, ht⟩
    · cases h2
    · injection hv with hv1 hv2 hv3
      injection hv1 with hv1
      injection hv1 with hv1
      subst hv1 hv3
      refine .inr ⟨g, c, putCells (Value.int .i64) 0 ys.toArray cur, rfl, hb, ?_, by omega, hm, by simpa [putCells] using hcs, ?_⟩
      · rw [grow_old _ _ (by rw [hsz]; exact hgw)]
        simp [putRow, mapBlock, Sort.ahead, Array.getElem?_modify, hh, onCells]
      · apply List.ext_getElem?
        intro j
        by_cases hj : j < ys.length
        · have hjc : j < cur.size := by omega
          simp [hj, putCells, ints, hjc]
        · simp [List.getElem?_take, hj, ints]
  · refine ⟨rfl, rfl, rfl, ?_, fun k hk hne => ?_⟩
    · simp only [grow, Array.size_append]
      rw [hsz]
      omega
    · rw [grow_old _ _ (by rw [hsz]; exact hk)]
      exact hoth k (fun e => hne (by rw [e]))
end Go.Proofs.Ytjifpjfinffamaa
end
section
namespace Go.Proofs.Ytjifpjfinffamaa
open Go.RowKit Go.Sort Go.Shelf
def encF (n : Nat) (x : Fin n) : Value := .int .i64 (x.val : Int)
theorem putRow_fin {n : Nat} [Inhabited (Fin n)] (w : World) (g : Nat) (ys : Array (Fin n)) : putRow (encF n) w g 0 ys = putRow (Value.int .i64) w g 0 (lks (ys.toList.map Fin.val)).toArray := by
  unfold putRow putCells
  congr 1
  funext c
  have hs : (lks (ys.toList.map Fin.val)).toArray.size = ys.size := by simp [lks]
  congr 1
  funext k x
  rw [hs]
  by_cases h : 0 ≤ k ∧ k < 0 + ys.size
  · have hk : k < ys.size := by omega
    rw [if_pos h, if_pos h, Nat.sub_zero, getElem!_pos ys k hk, getElem!_pos (lks (ys.toList.map Fin.val)).toArray k (by rw [hs]; exact hk)]
    simp [encF, lks]
  · rw [if_neg h, if_neg h]
theorem sortWorld_old {n : Nat} [Inhabited (Fin n)] (w : World) (g m : Nat) (dk : Array (Fin n)) (os : Array Obj) {k : Nat} (hk : k < w.heap.size) (hne : k ≠ g) : (sortWorld (encF n) w g 0 m dk os).heap[k]? = w.heap[k]? := by
  unfold sortWorld
  have hsz : (putRow (encF n) (Sort.ahead w m) g 0 dk).heap.size = w.heap.size := by simp [putRow, mapBlock, Sort.ahead]
  rw [grow_old _ _ (by rw [hsz]; exact hk)]
  simp [putRow, mapBlock, Sort.ahead, Array.getElem?_modify, Ne.symm hne]
theorem sortWorld_own {w : World} {base g c n m : Nat} [Inhabited (Fin n)] {zs : List Int} (h : OwnI w base (some ⟨g, 0, none⟩) c zs) (ys : Array (Fin n)) (hl : ys.size = zs.length) (os : Array Obj) :
    OwnI (sortWorld (encF n) w g 0 m ys os) base (some ⟨g, 0, none⟩) c (lks (ys.toList.map Fin.val)) ∧ w.grownBy (sortWorld (encF n) w g 0 m ys os) (some g) := by
  unfold sortWorld
  rw [putRow_fin]
  exact sort_world h (by simp [lks, hl]) m os
theorem fin_list (n : Nat) : ∀ L : List Nat, (∀ x ∈ L, x < n) → ∃ d : List (Fin n), d.map Fin.val = L
  | [], _ => ⟨[], rfl⟩
  | a :: r, h => by
    obtain ⟨d, hd⟩ := fin_list n r (fun x hx => h x (List.mem_cons_of_mem _ hx))
    exact ⟨⟨a, h a List.mem_cons_self⟩ :: d, by simp [hd]⟩
def fltB (bl : List Bl) (q : Nat) : List Nat := (List.range q).filter fun i => OverB (blAt bl i)
theorem fltB_succ (bl : List Bl) (q : Nat) : fltB bl (q + 1) = if OverB (blAt bl q) = true then fltB bl q ++ [q] else fltB bl q := by
  unfold fltB
  rw [List.range_succ, List.filter_append]
  by_cases h : OverB (blAt bl q) = true <;> simp [h]
theorem fltB_len (bl : List Bl) (q : Nat) : (fltB bl q).length ≤ q := by
  have := List.length_filter_le (fun i => OverB (blAt bl i)) (List.range q)
  simpa [fltB] using this
theorem fltB_lt {bl : List Bl} {q x : Nat} (h : x ∈ fltB bl q) : x < q := List.mem_range.1 (List.mem_filter.1 h).1
theorem cmp_lays {w w1 : World} {base : Nat} {gB cb gl cl g n : Nat} [Inhabited (Fin n)] {bl : List Bl} {hd : Nat → Value} {lk : List Nat} (h : BLk w1 base (some ⟨gB, 0, none⟩) cb bl hd (some ⟨gl, 0, none⟩) cl lk) (hl : lk.length = bl.length) (hn : n = bl.length) (hb : Below w1.heap.size w1 w)
    {B1 B2 B3 : Nat} (hb1 : w.cell? ⟨B1, 0, none⟩ = some (.slice (some ⟨gB, 0, none⟩) n cb)) (hb2 : w.cell? ⟨B2, 0, none⟩ = some (.func (.func 93) #[] #[.pointer (some ⟨B1, 0, none⟩)])) (hb3 : w.cell? ⟨B3, 0, none⟩ = some (.slice (some ⟨gl, 0, none⟩) n cl))
    (hg1 : B1 ≠ g) (hg2 : B2 ≠ g) (hg3 : B3 ≠ g) (hg : w1.heap.size ≤ g) (h1 : B1 < w.heap.size) (h2 : B2 < w.heap.size) (h3 : B3 < w.heap.size) (size : Nat) :
    CmpLays1 Try.prog 95 #[.pointer (some ⟨B1, 0, none⟩), .pointer (some ⟨B2, 0, none⟩), .pointer (some ⟨B3, 0, none⟩)] (encF n) (fun x y : Fin n => cfB bl lk x.val y.val) g 0 size w := by
  intro m os dk _ x y
  have hcell : ∀ (p : Addr) v, p.block < w.heap.size → p.block ≠ g → w.cell? p = some v → (sortWorld (encF n) w g 0 m dk os).cell? p = some v := fun p v hp hne hc => (World.cell?_of_block (w := w) (sortWorld_old w g m dk os hp hne)).trans hc
  have hBS : Below w1.heap.size w1 (sortWorld (encF n) w g 0 m dk os) := by
    refine ⟨?_, ?_, ?_, ?_, fun k hk => (sortWorld_old w g m dk os (by have := hb.size; omega) (by omega)).trans (hb.block k hk)⟩
    · exact hb.os
    · exact hb.tape
    · exact hb.output
    · have := hb.size
      simp [sortWorld, grow, putRow, mapBlock, Sort.ahead]
      omega
  obtain ⟨g', gl', Ar, nr, cr, At, nt, ct, hA, hAl, _, _, hci, hli⟩ := h.at_ hl (Nat.le_refl _) hBS (i := x.val) (by have := x.isLt; omega)
  obtain ⟨g'', gl'', Ar', nr', cr', At', nt', ct', hA', hAl', _, _, hck, hlk⟩ := h.at_ hl (Nat.le_refl _) hBS (i := y.val) (by have := y.isLt; omega)
  injection hA with hA
  injection hA with hA
  injection hAl with hAl
  injection hAl with hAl
  injection hA' with hA'
  injection hA' with hA'
  injection hAl' with hAl'
  injection hAl' with hAl'
  subst hA hAl hA' hAl'
  have hc := cmpF_any B1 B2 B3 gB gl x.val y.val n cb cl (blAt bl x.val) (blAt bl y.val) _ _ _ _ _ _ _ (hcell ⟨B1, 0, none⟩ _ h1 hg1 hb1) (hcell ⟨B2, 0, none⟩ _ h2 hg2 hb2) (hcell ⟨B3, 0, none⟩ _ h3 hg3 hb3) x.isLt y.isLt hci hck hli hlk
  refine Calls.mono hc ?_
  rintro e w' ⟨rfl, rfl⟩
  refine ⟨by rw [orV_cfB], 1, #[.cells #[.int .i64 (cmp3 (blAt bl x.val).num (blAt bl y.val).num), .int .i64 (cmp3 (fstB (blAt bl x.val)) (fstB (blAt bl y.val))), .int .i64 (cmp3 (lk.getD x.val 0 : Nat) (lk.getD y.val 0 : Nat))] 3], ?_⟩
  rw [alloc_eq_grow]
  rfl
theorem sort_places {w w1 : World} {base base2 : Nat} {cb cl c n : Nat} {Ab Al Ao : Option Addr} {bl : List Bl} {hd : Nat → Value} {lk : List Nat} (h : BLk w1 base Ab cb bl hd Al cl lk) (hl : lk.length = bl.length) (hn : n = bl.length) (hP : PartL lk n) (hb : Below w1.heap.size w1 w) (hn1 : n ≤ 1099511627776)
    {B1 B2 B3 : Nat} (hb1 : w.cell? ⟨B1, 0, none⟩ = some (.slice Ab n cb)) (hb2 : w.cell? ⟨B2, 0, none⟩ = some (.func (.func 93) #[] #[.pointer (some ⟨B1, 0, none⟩)])) (hb3 : w.cell? ⟨B3, 0, none⟩ = some (.slice Al n cl))
    (ho : OwnI w base2 Ao c (lks (fltB bl n))) (hg1 : (Value.slice Ao (lks (fltB bl n)).length c).ownBlock ≠ some B1) (hg2 : (Value.slice Ao (lks (fltB bl n)).length c).ownBlock ≠ some B2) (hg3 : (Value.slice Ao (lks (fltB bl n)).length c).ownBlock ≠ some B3) (hge : w1.heap.size ≤ base2) (h1 : B1 < w.heap.size) (h2 : B2 < w.heap.size) (h3 : B3 < w.heap.size) :
    Calls Try.prog 94 #[.slice Ao (fltB bl n).length c, .func (.func 95) #[] #[.pointer (some ⟨B1, 0, none⟩), .pointer (some ⟨B2, 0, none⟩), .pointer (some ⟨B3, 0, none⟩)]] w fun e w' =>
      e = .returned (.tuple #[]) ∧ OwnI w' base2 Ao c (lks (ordS bl lk n)) ∧ w.grownBy w' (Value.slice Ao (lks (fltB bl n)).length c).ownBlock := by
  rcases Nat.eq_zero_or_pos (fltB bl n).length with h0 | h0
  · have hf : fltB bl n = [] := List.eq_nil_of_length_eq_zero h0
    have hor : ordS bl lk n = [] := by
      have := (ordS_perm bl lk n).length_eq
      exact List.eq_nil_of_length_eq_zero (by rw [this]; exact h0)
    rw [h0]
    have hc := AnyF.slices_SortFunc_none (P := Try.prog) (ρ := lays94_ren) { lays94 with } Ao c (.func (.func 95) #[] #[.pointer (some ⟨B1, 0, none⟩), .pointer (some ⟨B2, 0, none⟩), .pointer (some ⟨B3, 0, none⟩)]) w
    refine Calls.mono hc ?_
    rintro e w' ⟨rfl, rfl⟩
    refine ⟨rfl, ?_, World.grownBy.refl _ _⟩
    rw [hor, ← hf]
    exact ho
  · obtain ⟨d, hd'⟩ := fin_list n (fltB bl n) (fun x hx => fltB_lt hx)
    have hdl : d.length = (fltB bl n).length := by rw [← hd']; simp
    obtain ⟨x0, hx0⟩ : ∃ x0, x0 ∈ d := List.exists_mem_of_length_pos (by omega)
    haveI : Inhabited (Fin n) := ⟨x0⟩
    obtain ⟨gB, gl, _, _, _, _, _, _, hAb, hAl, _⟩ := h.at_ hl (Nat.le_refl _) (Below.refl _ _) (i := x0.val) (by have := x0.isLt; omega)
    subst hAb hAl
    obtain ⟨g, capg, hv, hbg, hlt⟩ := ho.form (by rw [lks_len]; exact h0)
    have hA : Ao = some ⟨g, 0, none⟩ := by injection hv
    subst hA
    have n1 : B1 ≠ g := fun e => hg1 (congrArg some e.symm)
    have n2 : B2 ≠ g := fun e => hg2 (congrArg some e.symm)
    have n3 : B3 ≠ g := fun e => hg3 (congrArg some e.symm)
    have hcmp := cmp_lays (n := n) (g := g) h hl hn hb hb1 hb2 hb3 n1 n2 n3 (by omega) h1 h2 h3 d.toArray.size
    have hH : Holds (encF n) w g 0 d.toArray := by
      intro j hj
      have hj' : j < d.length := by simpa using hj
      refine ⟨?_, by rw [Nat.zero_add]; exact ho.frozenAt j⟩
      rw [Nat.zero_add, ho.cellAt j (by rw [lks_len]; omega), getElem!_pos d.toArray j hj]
      have : (fltB bl n)[j]? = some (d[j]).val := by rw [← hd']; simp [hj']
      simp [ints, lks, encF, this]
    have hsw := cfF_swo (bl := bl) hP
    have hpt := cfF_part (bl := bl) hP
    have eg : ∀ args w, (callFunc 95 args).run Try.prog w = .ok (.enter 95 args) w := enters_of Try.func95 (by kernel_rfl) rfl
    have hc := Any.slices_SortFunc_total lays94 (encF n) (fun _ => rfl) (fun x y : Fin n => cfB bl lk x.val y.val) hsw 95 #[.pointer (some ⟨B1, 0, none⟩), .pointer (some ⟨B2, 0, none⟩), .pointer (some ⟨B3, 0, none⟩)] g 0 c d.toArray w eg hcmp hH hlt (by have := fltB_len bl n; simp; omega) hpt
    have hsz : d.toArray.size = (fltB bl n).length := by simpa using hdl
    rw [hsz] at hc
    refine Calls.mono hc ?_
    rintro e w' ⟨rfl, m, os, rfl⟩
    have hso := sort_ordS (bl := bl) hP d hd'
    have hlen : ((d.toArray.toList.mergeSort fun x y => !(ltOf fun x y : Fin n => cfB bl lk x.val y.val) y x).toArray).size = (lks (fltB bl n)).length := by
      rw [List.size_toArray, List.length_mergeSort, lks_len, ← hsz]
      simp
    have hw := sortWorld_own (m := m) ho _ hlen os
    have e1 : (lks ((d.toArray.toList.mergeSort fun x y => !(ltOf fun x y : Fin n => cfB bl lk x.val y.val) y x).toArray.toList.map Fin.val)) = lks (ordS bl lk n) := by
      rw [← hso]
    rw [e1] at hw
    exact ⟨rfl, hw.1, hw.2⟩
end Go.Proofs.Ytjifpjfinffamaa
end
section
namespace Go.Proofs.Ytjifpjfinffamaa
open Go.RowKit Go.Sort Go.Shelf
set_option linter.unusedSimpArgs false in
set_option maxRecDepth 100000 in
set_option maxHeartbeats 12800000 in
theorem order_any (base : Nat) (Ab : Option Addr) (cb : Nat) (bl : List Bl) (hd : Nat → Value) (Al : Option Addr) (cl : Nat) (lk : List Nat) (w : World) (hbk : BLk w base Ab cb bl hd Al cl lk) (hl : lk.length = bl.length) (hP : PartL lk bl.length) (hle : bl.length ≤ 1099511627776) :
    Calls Try.prog 61 #[.slice Ab bl.length cb, .slice Al bl.length cl] w fun e w' => ∃ Ao co, e = .returned (.slice Ao (ordS bl lk bl.length).length co) ∧ OwnI w' w.heap.size Ao co (lks (ordS bl lk bl.length)) ∧ Below w.heap.size w w' := by
  obtain ⟨n, hn⟩ : ∃ n, n = bl.length := ⟨_, rfl⟩
  rw [← hn] at hP hle ⊢
  have HBK := Lib.hid hbk
  have HL := Lib.hid hl
  have HP := Lib.hid hP
  have HN := Lib.hid hn
  clear hbk hl hP hn
  obtain ⟨wB, hwB⟩ : ∃ wB, wB = (w.alloc (.cells #[.slice Ab n cb] 27)).alloc (.cells #[.slice Al n cl] 31) := ⟨_, rfl⟩
  have hB0 : Below w.heap.size w wB := by rw [hwB]; exact ((Below.refl w.heap.size w).alloc (Nat.le_refl _) (.cells #[.slice Ab n cb] 27)).alloc (by simp) (.cells #[.slice Al n cl] 31)
  have hq1 : wB.heap[w.heap.size]? = some (.cells #[.slice Ab n cb] 27 (0, 0)) := by rw [hwB]; exact (Below.heap_alloc _ _ _ (by simp)).trans (heap_at _ _ _ rfl)
  have hq2 : wB.heap[w.heap.size + 1]? = some (.cells #[.slice Al n cl] 31 (0, 0)) := by rw [hwB]; exact heap_at _ _ _ (by simp)
  have hsB : wB.heap.size = w.heap.size + 2 := by rw [hwB]; simp
  have HB0 := Lib.hid hB0
  have HQ1 := Lib.hid hq1
  have HQ2 := Lib.hid hq2
  have HSB := Lib.hid hsB
  have HWB := Lib.hid hwB
  clear hB0 hq1 hq2 hwB hsB
  go_enter Try.func61, Try.ntmps61
  go_wp2
  rw [← HWB.out]
  clear HWB
  go_loopw [11, 5] (fun i vo wr => ∃ (q : Nat) (Ao : Option Addr) (co m : Nat), q ≤ n ∧ m ≤ q ∧ Hid (m = (fltB bl q).length) ∧ i = .int .i64 q ∧ vo = .slice Ao m co ∧ Hid (OwnI wr wB.heap.size Ao co (lks (fltB bl q))) ∧ Hid (Below wB.heap.size wB wr)) (fun i _ _ => n - (intOf i).toNat)
  case atStart => exact ⟨0, none, 0, 0, Nat.zero_le _, Nat.le_refl _, rfl, rfl, rfl, OwnI.nil _ _, Below.refl _ _⟩
  case round =>
    obtain ⟨q, Ao, co, m, hq, hmq, HM, rfl, rfl, HO, HBL⟩ := hrel
    have hszr := HBL.out.size
    by_cases hqn : q < n
    · have hqb : q < bl.length := by rw [← HN.out]; exact hqn
      have hbw : Below w.heap.size w wr := HB0.out.trans (HBL.out.mono (by have := HSB.out; omega))
      obtain ⟨g, gl, Ar, nr, cr, At, nt, ct, hA, hAl, hgw, hglw, hcq, hlq⟩ := HBK.out.at_ HL.out (Nat.le_refl _) hbw hqb
      subst hA hAl
      obtain ⟨c0, c1, c2, c3, c4, c5, c6, c7, c8⟩ := hcq
      have hov := over_any (blAt bl q) (.slice Ar nr cr) (.slice At nt ct)
      obtain ⟨b, hbq⟩ : ∃ b, b = blAt bl q := ⟨_, rfl⟩
      rw [← hbq] at c0 c1 c2 c3 c4 c5 c6 hov
      have HBB := Lib.hid hbq
      have HOV := Lib.hid hov
      have i1 : (0 : Int) ≤ (q : Int) := by omega
      have i2 : (q : Int) < (n : Int) := by omega
      clear hbq hov hqb hlq hbw
      go_wp2_with (go_at_call 92; refine halt_ ?_)
      refine Halt_.go ?_
      refine (HOV.out _).mono ?_
      rintro e' w2 ⟨rfl, hb2⟩
      have hb3 : Below wr.heap.size wr w2 := ((Below.refl _ _).alloc (Nat.le_refl _) _).trans (hb2.mono (by simp))
      have HO1 := Lib.hid (HO.out.below (Nat.le_refl _) hb3)
      have HB1 := Lib.hid (HBL.out.trans (hb3.mono hszr))
      have hsz2 := hb3.size
      clear hb2 hb3 c0 c1 c2 c3 c4 c5 c6 c7 c8 HOV HO HBL
      by_cases hob : OverB b = true
      · rw [hob]
        have hfs : fltB bl (q + 1) = fltB bl q ++ [q] := by rw [fltB_succ, ← HBB.out, if_pos hob]
        have HFS := Lib.hid hfs
        have hrow : w2.ownsRow wB.heap.size 3 1 (.slice Ao m co) m (ints (lks (fltB bl q))) := by
          have := HO1.out
          unfold OwnI at this
          rw [lks_len, ← HM.out] at this
          exact this
        have HROW := Lib.hid hrow
        clear hfs hob hrow
        go_wp2_with (at_builtin; refine halt_ ?_)
        refine Halt_.go ?_
        refine wl_append1 _ (by rfl) (.tmp 18) (.tmp 20) 31 (by rfl) wB.heap.size 3 _ 1 8 info3 Try.underlying31 rfl (by decide) (.slice Ao m co) m (ints (lks (fltB bl q))) (by rfl) (HROW.out.alloc _) w2.heap.size 1 [.int .i64 (q : Int)] (by rfl) (heap_at _ _ _ rfl) rfl (by simp [Value.oneCell']) (by omega) (by omega) (by simp; omega) _ rfl ?_
        intro g3 c3 w3 hown3 hgr3 hat3 hlt3
        have hgr := grown_trans (World.grownBy_alloc w2 _ _) hgr3
        have hl3 : (lks (fltB bl (q + 1))).length = m + 1 := by rw [HFS.out, lks_len, List.length_append, ← HM.out]; rfl
        have ho3 : OwnI w3 wB.heap.size (some ⟨g3, 0, none⟩) c3 (lks (fltB bl (q + 1))) := by
          unfold OwnI
          rw [hl3, HFS.out, show ints (lks (fltB bl q ++ [q])) = ints (lks (fltB bl q)) ++ [.int .i64 (q : Int)] from by simp [ints, lks]]
          exact hown3
        have HO3 := Lib.hid ho3
        have HM3 : Hid (m + 1 = (fltB bl (q + 1)).length) := by
          rw [lks_len] at hl3
          exact hl3.symm
        have HB3 := Lib.hid (HB1.out.grown hgr (by omega) (fun k hk => (HROW.out.lt k hk).1))
        clear hl3 ho3 hgr hown3 hgr3 hat3 hlt3 HROW HFS HO1 HB1 HM
        go_wp2
        go_roundw
        case rel => exact ⟨q + 1, _, c3, m + 1, hqn, by omega, HM3, by go_num, rfl, HO3, HB3⟩
        case measure => simp [intOf]; omega
      · have hob' : OverB b = false := by simpa using hob
        rw [hob']
        have hfs : fltB bl (q + 1) = fltB bl q := by rw [fltB_succ, ← HBB.out, if_neg hob]
        have HM3 : Hid (m = (fltB bl (q + 1)).length) := by rw [hfs]; exact HM
        have HO3 : Hid (OwnI w2 wB.heap.size Ao co (lks (fltB bl (q + 1)))) := by rw [hfs]; exact HO1
        clear hfs hob hob' HM HO1
        go_wp2
        go_roundw
        case rel => exact ⟨q + 1, Ao, co, m, hqn, by omega, HM3, by go_num, rfl, HO3, HB1⟩
        case measure => simp [intOf]; omega
    · obtain rfl : q = n := by omega
      go_wp2_with (go_at_call 94; refine halt_ ?_)
      refine Halt_.go ?_
      have hbw : Below w.heap.size w (wr.alloc (.cells #[.func (.func 93) #[] #[.pointer (some ⟨w.heap.size, 0, none⟩)]] 151)) := (HB0.out.trans (HBL.out.mono (by have := HSB.out; omega))).alloc (by have := HSB.out; omega) _
      have hs2 := HSB.out
      have q1 : (wr.alloc (.cells #[.func (.func 93) #[] #[.pointer (some ⟨w.heap.size, 0, none⟩)]] 151)).cell? ⟨w.heap.size, 0, none⟩ = some (.slice Ab q cb) := by
        rw [cell_of_row _ _ _ _ 27 (0, 0) ((Below.heap_alloc wr _ _ (by omega)).trans ((HBL.out.block _ (by omega)).trans HQ1.out))]
        rfl
      have q3 : (wr.alloc (.cells #[.func (.func 93) #[] #[.pointer (some ⟨w.heap.size, 0, none⟩)]] 151)).cell? ⟨w.heap.size + 1, 0, none⟩ = some (.slice Al q cl) := by
        rw [cell_of_row _ _ _ _ 31 (0, 0) ((Below.heap_alloc wr _ _ (by omega)).trans ((HBL.out.block _ (by omega)).trans HQ2.out))]
        rfl
      have q2 : (wr.alloc (.cells #[.func (.func 93) #[] #[.pointer (some ⟨w.heap.size, 0, none⟩)]] 151)).cell? ⟨wr.heap.size, 0, none⟩ = some (.func (.func 93) #[] #[.pointer (some ⟨w.heap.size, 0, none⟩)]) := by
        rw [cell_of_row _ _ _ _ 151 (0, 0) (heap_at _ _ _ rfl)]
        rfl
      have ho := HO.out.below (Nat.le_refl _) ((Below.refl wr.heap.size wr).alloc (Nat.le_refl _) (.cells #[.func (.func 93) #[] #[.pointer (some ⟨w.heap.size, 0, none⟩)]] 151))
      have hlt := HO.out.lt
      have hsp := sort_places HBK.out HL.out HN.out HP.out hbw hle q1 q2 q3 ho (fun e => by have := (hlt _ e).1; omega) (fun e => by have := (hlt _ e).2; omega) (fun e => by have := (hlt _ e).1; omega) (by omega) (by simp; omega) (by simp) (by simp; omega)
      rw [← HM.out] at hsp
      refine hsp.mono ?_
      rintro e' w3 ⟨rfl, ho3, hg3⟩
      have hb3 := hbw.grown hg3 (by simp; omega) (fun k hk => by have := (ho.lt k hk).1; omega)
      have HO3 := Lib.hid ho3
      have HB3 := Lib.hid hb3
      have hml : m = (ordS bl lk q).length := by
        have h1 := (ordS_perm bl lk q).length_eq
        have h2 := HM.out
        unfold fltB at h2
        rw [h1]
        exact h2
      have HML := Lib.hid hml
      clear hsp ho3 hg3 hb3 hml ho hlt q1 q2 q3 hbw hs2 HM
      go_wp2
      go_ret
      refine ⟨Ao, co, ?_, HO3.out.base (by have := HSB.out; omega), HB3.out⟩
      rw [← HML.out]
      rfl
end Go.Proofs.Ytjifpjfinffamaa
end
section
namespace Go.Proofs.Ytjifpjfinffamaa
open Go.RowKit
set_option linter.unusedSimpArgs false in
set_option maxRecDepth 100000 in
set_option maxHeartbeats 12800000 in
theorem cut_any (A : Option Addr) (cap : Nat) (l : List Ev) (w : World) (hl : l.length ≤ 1099511627776) (hth : ∀ e ∈ l, 0 ≤ e.th ∧ e.th < 8) (hc : EvR w w.heap.size A l) :
    Calls Try.prog 60 #[.slice A l.length cap] w fun e w' => ∃ Ab cb hd Al cl, e = .returned (.tuple #[.slice Ab (cutF cs0 l 0).bl.length cb, .slice Al (cutF cs0 l 0).bl.length cl]) ∧ BLk w' w.heap.size Ab cb ((cutF cs0 l 0).bl.map finW) hd Al cl (cutF cs0 l 0).lk ∧ Below w.heap.size w w' := by
  have HC := Lib.hid hc
  have HTH := Lib.hid hth
  clear hc hth
  obtain ⟨R, hR⟩ : ∃ R, R = cutF cs0 l 0 := ⟨_, rfl⟩
  rw [← hR]
  have HR := Lib.hid hR
  clear hR
  have hst : CutI w (w.alloc (.map #[] 0)) 0 cs0 none 0 (fun _ => .slice none 0 0) none 0 := ⟨BLk.nil _ _, OpM.start w, (Below.refl _ _).alloc (Nat.le_refl _) _⟩
  have HS := Lib.hid hst
  clear hst
  have hmm := @run_makeMap Try.prog
  go_enter Try.func60, Try.ntmps60
  go_wp2
  go_loopw [17, 4, 5] (fun i va vl wr => ∃ (p : Nat) (c : CS) (Ab : Option Addr) (cb : Nat) (hd : Nat → Value) (Al : Option Addr) (cl m n : Nat), p ≤ l.length ∧ m ≤ p ∧ n ≤ p ∧ Hid (n = c.bl.length ∧ n = c.lk.length) ∧ i = .int .i64 p ∧ va = .slice Ab n cb ∧ vl = .slice Al n cl ∧ Hid (CutI w wr m c Ab cb hd Al cl) ∧ Hid (R = cutF c (l.drop p) p) ∧ Hid (COwn c p)) (fun i _ _ _ => l.length - (intOf i).toNat)
  case atStart => exact ⟨0, cs0, none, 0, _, none, 0, 0, 0, Nat.zero_le _, Nat.le_refl _, Nat.le_refl _, ⟨rfl, rfl⟩, rfl, rfl, rfl, HS, Lib.hid (by simpa using HR.out), COwn.start⟩
  case round =>
    obtain ⟨p, c, Ab, cb, hd, Al, cl, m, n, hp, hmp, hnp, HN, rfl, rfl, rfl, HI, HX, HO⟩ := hrel
    clear HR HS
    by_cases hlt : p < l.length
    · obtain ⟨eb, eo, e, hA, heb, he, hwd, e0, e1, e2, e3, e4, e5⟩ := HC.out.at_ HI.out.bel hlt
      subst hA
      have hst := HX.out
      rw [cutF_step he.out] at hst
      obtain ⟨ht0, ht8⟩ := HTH.out e (List.mem_of_getElem? he.out)
      have HO2 := Lib.hid (HO.out.step e)
      have hbl := HO.out
      obtain ⟨t, k, a, x, o, er⟩ := e
      simp only at e0 e1 e2 e3 e4 e5 ht0 ht8
      have HST := Lib.hid hst
      have HWD := Lib.hid hwd
      have i1 : (0 : Int) ≤ (p : Int) := by omega
      have i2 : (p : Int) < (l.length : Int) := by omega
      have hwl := HI.out.lt
      have HAL := Lib.hid ((Below.refl wr.heap.size wr).alloc (Nat.le_refl _) (.cells #[.int .i64 t, .int .i64 k, .int .u64 a, .int .u64 x, .bool o, .int .i64 er] 97))
      have HIb := Lib.hid (HI.out.keep HAL.out)
      clear hst he HX hwd hbl
      by_cases hk1 : k = 1
      · subst hk1
        have hx := HWD.out.2
        simp only at hx
        have hdiv : x.tdiv 2 = x / 2 := Int.tdiv_eq_ediv_of_nonneg hx.1
        have hw : IntKind.u64.wrap (x / 2) = x / 2 := by
          simp only [IntKind.wrap, IntKind.signed, IntKind.bits]
          simp
          omega
        obtain ⟨w2, hrun, hop, hg2⟩ := HIb.out.op.put ht0 ht8 (show m < maxLen by unfold maxLen; omega) (show n < 4611686018427387904 by omega)
        have hI2 := HIb.out.mapped hop hg2
        have b0 : w2.cell? ⟨wr.heap.size, 0, none⟩ = some (.int .i64 t) := hg2.cell (by rw [cell_of_row _ _ _ _ 97 (0, 0) (heap_alloc_new _ _)]; rfl) (fun e => absurd (Option.some.inj e) (show wr.heap.size ≠ w.heap.size by omega))
        have b1 : w2.cell? ⟨wr.heap.size, 1, none⟩ = some (.int .i64 1) := hg2.cell (by rw [cell_of_row _ _ _ _ 97 (0, 0) (heap_alloc_new _ _)]; rfl) (fun e => absurd (Option.some.inj e) (show wr.heap.size ≠ w.heap.size by omega))
        have b3 : w2.cell? ⟨wr.heap.size, 3, none⟩ = some (.int .u64 x) := hg2.cell (by rw [cell_of_row _ _ _ _ 97 (0, 0) (heap_alloc_new _ _)]; rfl) (fun e => absurd (Option.some.inj e) (show wr.heap.size ≠ w.heap.size by omega))
        have hsz := hg2.size
        have hsz2 : wr.heap.size + 1 ≤ w2.heap.size := by simpa using hsz
        have hrow : w2.ownsRow (w.heap.size + 1) 43 9 (.slice Ab n cb) n ((List.range (n * 9)).map (bF c.bl hd)) := by
          rw [HN.out.1]
          exact hI2.blk.hb.row
        have HROW := Lib.hid hrow
        have HI2 := Lib.hid hI2
        clear hop hg2 hI2 hsz hrow hx
        go_upto_region 9 with fail
        go_wp2_with (at_builtin; refine halt_ ?_)
        refine Halt_.go ?_
        refine wl_append1 _ (by rfl) (.tmp 30) (.tmp 39) 27 (by rfl) (w.heap.size + 1) 43 _ 9 104 info43 Try.underlying27 rfl (by decide) (.slice Ab n cb) n ((List.range (n * 9)).map (bF c.bl hd)) (by rfl) (HROW.out.alloc _) w2.heap.size 1 [.int .i64 t, .int .i64 5, .int .i64 (p : Int), .int .i64 (p : Int), .int .u64 (x / 2), .bool false, .int .i64 0, .slice none 0 0, .slice none 0 0] (by rfl) (heap_at _ _ _ rfl) rfl (by simp [Value.oneCell']) (by omega) (by omega) (by simp; omega) _ rfl ?_
        intro g cap2 w3 hown3 hgr0 hat0 hlt3
        have hgr := grown_trans (World.grownBy_alloc w2 _ _) hgr0
        obtain ⟨hd3, hP⟩ := HI2.out.pushed (begB ⟨t, 1, a, x, o, er⟩ p) rfl rfl (w2 := w3) (by dsimp only; rw [← HN.out.1]; exact hgr) (by dsimp only; rw [← HN.out.1]; exact hown3)
        have hsz3 := hgr.size
        have hlrow : w3.ownsRow (w.heap.size + 1) 3 1 (.slice Al n cl) n (ints (lks c.lk)) := by
          have := hP.blk.lk
          unfold OwnI at this
          rw [lks_len] at this
          dsimp only at this
          rw [← HN.out.2] at this
          exact this
        have HI3 := Lib.hid hP
        have HLROW := Lib.hid hlrow
        have hsz4 : wr.heap.size + 1 ≤ w3.heap.size := by omega
        clear hP hlrow hown3 hgr0 hat0 hlt3 hgr HI2 HROW b0 b1 b3 hsz3
        go_wp2_with (at_builtin; refine halt_ ?_)
        refine Halt_.go ?_
        refine wl_append1 _ (by rfl) (.tmp 41) (.tmp 43) 31 (by rfl) (w.heap.size + 1) 3 _ 1 8 info3 Try.underlying31 rfl (by decide) (.slice Al n cl) n (ints (lks c.lk)) (by rfl) (HLROW.out.alloc _) w3.heap.size 1 [.int .i64 (p : Int)] (by rfl) (heap_at _ _ _ rfl) rfl (by simp [Value.oneCell']) (by omega) (by omega) (by simp; omega) _ rfl ?_
        intro g5 cap5 w5 hown5 hgr0 hat0 hlt5
        have hgr := grown_trans (World.grownBy_alloc w3 _ _) hgr0
        have hl5 : (lks (c.lk ++ [p])).length = n + 1 := by rw [lks_len, List.length_append, ← HN.out.2]; rfl
        have hP := HI3.out.looked p (w2 := w5) (Al' := some ⟨g5, 0, none⟩) (cl' := cap5) (by dsimp only; rw [lks_len, ← HN.out.2]; exact hgr) (by
          unfold OwnI
          dsimp only
          rw [hl5, show ints (lks (c.lk ++ [p])) = ints (lks c.lk) ++ [.int .i64 (p : Int)] from by simp [ints, lks]]
          exact hown5)
        dsimp only at hP
        have hcs : cutS c p ⟨t, 1, a, x, o, er⟩ = ⟨c.bl ++ [begB ⟨t, 1, a, x, o, er⟩ p], c.lk ++ [p], fun x => if x = t then some n else c.op x⟩ := by
          unfold cutS
          rw [if_pos rfl]
          dsimp only
          rw [← HN.out.1]
        have hx2 := HST.out
        have ho2 := HO2.out
        rw [hcs] at hx2 ho2
        have HI5 := Lib.hid hP
        have HX2 := Lib.hid hx2
        have HO3 := Lib.hid ho2
        have HN2 : Hid (n + 1 = (c.bl ++ [begB ⟨t, 1, a, x, o, er⟩ p]).length ∧ n + 1 = (c.lk ++ [p]).length) := by
          have := HN.out
          exact ⟨by simp; omega, by simp; omega⟩
        clear hP hcs hx2 ho2 hown5 hgr0 hat0 hlt5 hgr hl5 HI3 HLROW HST HO2 HN HO HI HIb HAL
        go_wp2
        go_roundw
        case rel => exact ⟨p + 1, _, _, _, _, _, _, m + 1, n + 1, hlt, by omega, by omega, HN2, by go_num, rfl, rfl, HI5, HX2, HO3⟩
        case measure => simp [intOf]; omega
      · have k1 : (k == 1) = false := by simpa using hk1
        rcases HIb.out.op.look ht0 ht8 with ⟨hno, hrun⟩ | ⟨j, hso, hrun⟩
        · have hcs : cutS c p ⟨t, k, a, x, o, er⟩ = c := by
            unfold cutS
            rw [if_neg hk1]
            dsimp only
            rw [hno]
          have hx2 := HST.out
          have ho2 := HO2.out
          rw [hcs] at hx2 ho2
          have HX2 := Lib.hid hx2
          have HO3 := Lib.hid ho2
          clear hcs hx2 ho2 hno HST HO2 HO HI HAL hk1
          go_wp2
          go_roundw
          case rel => exact ⟨p + 1, c, Ab, cb, hd, Al, cl, m, n, hlt, by omega, by omega, HN, by go_num, rfl, rfl, HIb, HX2, HO3⟩
          case measure => simp [intOf]; omega
        · have hj : j < n := by rw [HN.out.1]; exact HO.out.own t j hso
          have hcs : cutS c p ⟨t, k, a, x, o, er⟩ = ⟨c.bl.set j (evB (blAt c.bl j) p ⟨t, k, a, x, o, er⟩), if k = 4 then c.lk.set j p else c.lk, if OverK k then fun y => if y = t then none else c.op y else c.op⟩ := by
            unfold cutS
            rw [if_neg hk1]
            dsimp only
            rw [hso]
          have hrd := HO.out.rd j
          have hwt := HO.out.wt j
          have hjb : j < c.bl.length := by rw [← HN.out.1]; exact hj
          obtain ⟨g, hAg, hgB, hcj, _, _⟩ := HI.out.blk.hb.reads.at_ (Below.refl _ _) hjb
          subst hAg
          have hgl := (HI.out.blk.hb.row.lt g rfl).1
          have f1 := HI.out.blk.hb.frozen (j * 9 + 1)
          have f3 := HI.out.blk.hb.frozen (j * 9 + 3)
          have f4 := HI.out.blk.hb.frozen (j * 9 + 4)
          have f6 := HI.out.blk.hb.frozen (j * 9 + 6)
          have c1 := hcj.c1
          have c3 := hcj.c3
          have c4 := hcj.c4
          have c6 := hcj.c6
          obtain ⟨b, hb⟩ : ∃ b, b = blAt c.bl j := ⟨_, rfl⟩
          have HBB := Lib.hid hb
          rw [← hb] at c1 c3 c4 c6 hcs hrd hwt
          have HI3 := Lib.hid (HI.out.set j 3 (.int .i64 (p : Int)) { b with last := p } hjb (by decide) (fun i r s hi => by rw [← hb]; rcases nine hi with rfl | rfl | rfl | rfl | rfl | rfl | rfl | rfl | rfl <;> simp [bcell]) (by rw [← hb]) (by rw [← hb]))
          have hx2 := HST.out
          have ho2 := HO2.out
          rw [hcs] at hx2 ho2
          have HX2 := Lib.hid hx2
          have HO3 := Lib.hid ho2
          have HCS := Lib.hid hcs
          have HJB := Lib.hid hjb
          have i3 : (0 : Int) ≤ (j : Int) := by omega
          have i4 : (j : Int) < (n : Int) := by omega
          clear hcs hx2 ho2 hso HST HO2 HO HAL hk1 hb hcj hjb

          by_cases k6 : k = 6
          · subst k6
            have hW := (((HI3.out.set2 HJB.out 1 (.int .i64 1) { b with last := p, kind := 1 } (by decide) (fun i r s hi => by rcases nine hi with rfl | rfl | rfl | rfl | rfl | rfl | rfl | rfl | rfl <;> simp [bcell]) rfl rfl).set2 HJB.out 4 (.int .u64 x) { b with last := p, kind := 1, num := x } (by decide) (fun i r s hi => by rcases nine hi with rfl | rfl | rfl | rfl | rfl | rfl | rfl | rfl | rfl <;> simp [bcell]) rfl rfl).keep ((Below.refl _ _).alloc (Nat.le_refl _) (.cells #[.int .i64 t, .int .i64 6, .int .u64 a, .int .u64 x, .bool o, .int .i64 er] 97))).drew
            obtain ⟨w5, hdel, hop, hg5⟩ := hW.op.drop ht0 ht8 0
            have hI5 := hW.mapped hop hg5
            have hev : evB b p ⟨t, 6, a, x, o, er⟩ = { b with last := p, kind := 1, num := x } := by simp [evB, clB]
            have hx2 := HX2.out
            have ho2 := HO3.out
            rw [hev, if_neg (by decide), if_pos (by decide)] at hx2 ho2
            have HX4 := Lib.hid hx2
            have HO4 := Lib.hid ho2
            have HI5 := Lib.hid hI5
            have HN2 : Hid (n = (c.bl.set j { b with last := p, kind := 1, num := x }).length ∧ n = c.lk.length) := by
              have := HN.out
              exact ⟨by simp; omega, this.2⟩
            clear hW hop hg5 hI5 hev hx2 ho2 HX2 HO3 HCS HI3 HI HIb HN
            go_wp2
            go_region
            go_wp2
            go_roundw
            case rel => exact ⟨p + 1, _, _, _, _, _, _, m, n, hlt, by omega, by omega, HN2, by go_num, rfl, rfl, HI5, HX4, HO4⟩
            case measure => simp [intOf]; omega
          · have k6' : (k == 6) = false := by simpa using k6
            by_cases k8 : k = 8
            · subst k8
              have hW := ((HI3.out.set2 HJB.out 1 (.int .i64 2) { b with last := p, kind := 2 } (by decide) (fun i r s hi => by rcases nine hi with rfl | rfl | rfl | rfl | rfl | rfl | rfl | rfl | rfl <;> simp [bcell]) rfl rfl).keep ((Below.refl _ _).alloc (Nat.le_refl _) (.cells #[.int .i64 t, .int .i64 8, .int .u64 a, .int .u64 x, .bool o, .int .i64 er] 97)))
              obtain ⟨w5, hdel, hop, hg5⟩ := hW.op.drop ht0 ht8 0
              have hI5 := hW.mapped hop hg5
              have hev : evB b p ⟨t, 8, a, x, o, er⟩ = { b with last := p, kind := 2 } := by simp [evB, clB]
              have hx2 := HX2.out
              have ho2 := HO3.out
              rw [hev, if_neg (by decide), if_pos (by decide)] at hx2 ho2
              have HX4 := Lib.hid hx2
              have HO4 := Lib.hid ho2
              have HI5 := Lib.hid hI5
              have HN2 : Hid (n = (c.bl.set j { b with last := p, kind := 2 }).length ∧ n = c.lk.length) := by
                have := HN.out
                exact ⟨by simp; omega, this.2⟩
              clear hW hop hg5 hI5 hev hx2 ho2 HX2 HO3 HCS HI3 HI HIb HN
              go_wp2
              go_roundw
              case rel => exact ⟨p + 1, _, _, _, _, _, _, m, n, hlt, by omega, by omega, HN2, by go_num, rfl, rfl, HI5, HX4, HO4⟩
              case measure => simp [intOf]; omega
            · have k8' : (k == 8) = false := by simpa using k8
              by_cases k9 : k = 9
              · subst k9
                have hW := (((HI3.out.set2 HJB.out 1 (.int .i64 3) { b with last := p, kind := 3 } (by decide) (fun i r s hi => by rcases nine hi with rfl | rfl | rfl | rfl | rfl | rfl | rfl | rfl | rfl <;> simp [bcell]) rfl rfl).set2 HJB.out 6 (.int .i64 er) { b with last := p, kind := 3, err := er } (by decide) (fun i r s hi => by rcases nine hi with rfl | rfl | rfl | rfl | rfl | rfl | rfl | rfl | rfl <;> simp [bcell]) rfl rfl).keep ((Below.refl _ _).alloc (Nat.le_refl _) (.cells #[.int .i64 t, .int .i64 9, .int .u64 a, .int .u64 x, .bool o, .int .i64 er] 97))).drew
                obtain ⟨w5, hdel, hop, hg5⟩ := hW.op.drop ht0 ht8 0
                have hI5 := hW.mapped hop hg5
                have hev : evB b p ⟨t, 9, a, x, o, er⟩ = { b with last := p, kind := 3, err := er } := by simp [evB, clB]
                have hx2 := HX2.out
                have ho2 := HO3.out
                rw [hev, if_neg (by decide), if_pos (by decide)] at hx2 ho2
                have HX4 := Lib.hid hx2
                have HO4 := Lib.hid ho2
                have HI5 := Lib.hid hI5
                have HN2 : Hid (n = (c.bl.set j { b with last := p, kind := 3, err := er }).length ∧ n = c.lk.length) := by
                  have := HN.out
                  exact ⟨by simp; omega, this.2⟩
                clear hW hop hg5 hI5 hev hx2 ho2 HX2 HO3 HCS HI3 HI HIb HN
                go_wp2
                go_region
                go_wp2
                go_roundw
                case rel => exact ⟨p + 1, _, _, _, _, _, _, m, n, hlt, by omega, by omega, HN2, by go_num, rfl, rfl, HI5, HX4, HO4⟩
                case measure => simp [intOf]; omega
              · have k9' : (k == 9) = false := by simpa using k9
                by_cases k7 : k = 7
                · subst k7
                  have hW := ((HI3.out.set2 HJB.out 1 (.int .i64 4) { b with last := p, kind := 4 } (by decide) (fun i r s hi => by rcases nine hi with rfl | rfl | rfl | rfl | rfl | rfl | rfl | rfl | rfl <;> simp [bcell]) rfl rfl).keep ((Below.refl _ _).alloc (Nat.le_refl _) (.cells #[.int .i64 t, .int .i64 7, .int .u64 a, .int .u64 x, .bool o, .int .i64 er] 97)))
                  obtain ⟨w5, hdel, hop, hg5⟩ := hW.op.drop ht0 ht8 0
                  have hI5 := hW.mapped hop hg5
                  have hev : evB b p ⟨t, 7, a, x, o, er⟩ = { b with last := p, kind := 4 } := by simp [evB, clB]
                  have hx2 := HX2.out
                  have ho2 := HO3.out
                  rw [hev, if_neg (by decide), if_pos (by decide)] at hx2 ho2
                  have HX4 := Lib.hid hx2
                  have HO4 := Lib.hid ho2
                  have HI5 := Lib.hid hI5
                  have HN2 : Hid (n = (c.bl.set j { b with last := p, kind := 4 }).length ∧ n = c.lk.length) := by
                    have := HN.out
                    exact ⟨by simp; omega, this.2⟩
                  clear hW hop hg5 hI5 hev hx2 ho2 HX2 HO3 HCS HI3 HI HIb HN
                  go_wp2
                  go_roundw
                  case rel => exact ⟨p + 1, _, _, _, _, _, _, m, n, hlt, by omega, by omega, HN2, by go_num, rfl, rfl, HI5, HX4, HO4⟩
                  case measure => simp [intOf]; omega
                · have k7' : (k == 7) = false := by simpa using k7
                  have hnov : ¬ OverK k := by rintro (q | q | q | q) <;> contradiction
                  have hev : evB b p ⟨t, k, a, x, o, er⟩ = stB { b with last := p } ⟨t, k, a, x, o, er⟩ := by unfold evB clB; rw [if_neg k6, if_neg k8, if_neg k9, if_neg k7]
                  have hW := HI3.out.keep ((Below.refl _ _).alloc (Nat.le_refl _) (.cells #[.int .i64 t, .int .i64 k, .int .u64 a, .int .u64 x, .bool o, .int .i64 er] 97))
                  have hin := inner_cut hW HJB.out ⟨t, k, a, x, o, er⟩ HWD.out (show b.rd.length ≤ 1099511627776 by omega) (show b.wt.length ≤ 1099511627776 by omega)
                  have hlkf := HI.out.blk.lk.form (by rw [lks_len, ← HN.out.2]; omega)
                  obtain ⟨gl, capl, hvl, hbl, hlgl⟩ := hlkf
                  have hAl : Al = some ⟨gl, 0, none⟩ := by injection hvl
                  subst hAl
                  have hgw : ¬ wr.heap.size = g := by
                    have := (HI.out.blk.hb.row.lt g rfl).2
                    omega
                  have hlw : ∀ i, i < 2 * c.bl.length → (hd i).ownBlock ≠ some wr.heap.size := fun i hi e => by
                    have := (HI.out.blk.hb.own i hi).lt _ e
                    omega
                  have hx2 := HX2.out
                  have ho2 := HO3.out
                  rw [hev] at hx2 ho2
                  have HX4 := Lib.hid hx2
                  have HO4 := Lib.hid ho2
                  have HIN := Lib.hid hin
                  have HLW := Lib.hid hlw
                  obtain ⟨s, hs⟩ : ∃ s, s = stB { b with last := p } ⟨t, k, a, x, o, er⟩ := ⟨_, rfl⟩
                  have HSS := Lib.hid hs
                  have HNOV := Lib.hid hnov
                  clear hev hW hin hvl hbl hx2 ho2 HX2 HO3 HCS HI3 HIb hlw hs hnov hlgl k6 k7 k8 k9
                  go_wp2_with (go_at_call 91; refine halt_ ?_)
                  refine Halt_.go ?_
                  refine HIN.out.mono ?_
                  rintro e' w3 ⟨rfl, ⟨hd3, hI3⟩, hsz3, hfr⟩
                  have hsz4 : wr.heap.size + 1 ≤ w3.heap.size := by simpa using hsz3
                  have hbox : w3.heap[wr.heap.size]? = some (.cells #[.int .i64 t, .int .i64 k, .int .u64 a, .int .u64 x, .bool o, .int .i64 er] 97 (0, 0)) :=
                    (hfr wr.heap.size (by simp) hgw HLW.out).trans (heap_at _ _ _ (by simp))
                  have q0 : w3.cell? ⟨wr.heap.size, 0, none⟩ = some (.int .i64 t) := by rw [cell_of_row _ _ _ _ 97 (0, 0) hbox]; rfl
                  have q1 : w3.cell? ⟨wr.heap.size, 1, none⟩ = some (.int .i64 k) := by rw [cell_of_row _ _ _ _ 97 (0, 0) hbox]; rfl
                  rw [← HSS.out] at hI3
                  have hcl : w3.cell? ⟨gl, j, none⟩ = some ((ints (lks c.lk))[j]'(by simp [ints, lks_len, ← HN.out.2]; exact hj)) := by
                    have := hI3.blk.lk.cellAt j (by simp only [lks_len, Nat.mul_one]; rw [← HN.out.2]; exact hj)
                    rw [this]
                    simp [ints, lks_len, ← HN.out.2, hj]
                  have hfl := hI3.blk.lk.frozenAt j
                  generalize (ints (lks c.lk))[j]'(by simp [ints, lks_len, ← HN.out.2]; exact hj) = vl at hcl
                  have HI4 := Lib.hid hI3
                  have HN2 : Hid (n = (c.bl.set j s).length ∧ n = c.lk.length) := by
                    have := HN.out
                    exact ⟨by simp; omega, this.2⟩
                  clear hI3 hsz3 hfr hbox HIN HLW
                  by_cases k4 : k = 4
                  · subst k4
                    have HI5 := Lib.hid (HI4.out.lookset j p)
                    have HN3 : Hid (n = (c.bl.set j s).length ∧ n = (c.lk.set j p).length) := by
                      have := HN2.out
                      exact ⟨this.1, by simp; omega⟩
                    have hx2 := HX4.out
                    have ho2 := HO4.out
                    rw [if_pos rfl, ← HSS.out, if_neg HNOV.out] at hx2 ho2
                    have HX5 := Lib.hid hx2
                    have HO5 := Lib.hid ho2
                    clear hx2 ho2 HX4 HO4 HI HI4 HN HN2 HNOV
                    go_wp2
                    go_roundw
                    case rel => exact ⟨p + 1, _, _, _, _, _, _, m, n, hlt, by omega, by omega, HN3, by go_num, rfl, rfl, HI5, HX5, HO5⟩
                    case measure => simp [intOf]; omega
                  · have k4' : (k == 4) = false := by simpa using k4
                    have hx2 := HX4.out
                    have ho2 := HO4.out
                    rw [if_neg k4, ← HSS.out, if_neg HNOV.out] at hx2 ho2
                    have HX5 := Lib.hid hx2
                    have HO5 := Lib.hid ho2
                    clear hx2 ho2 HX4 HO4 HI HN k4 HNOV
                    go_wp2
                    go_roundw
                    case rel => exact ⟨p + 1, _, _, _, _, _, _, m, n, hlt, by omega, by omega, HN2, by go_num, rfl, rfl, HI4, HX5, HO5⟩
                    case measure => simp [intOf]; omega
    · obtain rfl : p = l.length := by omega
      have hst := HX.out
      rw [cutF_end] at hst
      have hb0 := HI.out.blk.base' (Nat.le_succ _)
      rw [← dlB_zero c.bl] at hb0
      have HB0 := Lib.hid hb0
      have HBL := Lib.hid HI.out.bel
      have HR := Lib.hid hst
      clear hst hb0 HX HI HO
      go_wp2
      go_loopw [110] (fun i wr2 => ∃ q : Nat, q ≤ n ∧ i = .int .i64 q ∧ Hid (BLk wr2 w.heap.size Ab cb (dlB c.bl q) hd Al cl c.lk) ∧ Hid (Below w.heap.size w wr2)) (fun i _ => n - (intOf i).toNat)
      case atStart => exact ⟨0, Nat.zero_le _, rfl, HB0, HBL⟩
      case round =>
        clear HB0 HBL
        obtain ⟨q, hq, rfl, HB1, HBL1⟩ := hrel
        by_cases hqn : q < n
        · have hqb : q < c.bl.length := by rw [← HN.out.1]; exact hqn
          have hqd : q < (dlB c.bl q).length := by rw [dlB_len]; exact hqb
          obtain ⟨g, hAg, hgB, hcj, _, _⟩ := HB1.out.hb.reads.at_ (Below.refl _ _) hqd
          subst hAg
          have f5 := HB1.out.hb.frozen (q * 9 + 5)
          rw [dlB_at hqb] at hcj
          have c1 := hcj.c1
          have c5 := hcj.c5
          have hgl := (HB1.out.hb.row.lt g rfl).1
          have hs := HB1.out.set q 5 (.bool ((blAt c.bl q).wr && decide ((blAt c.bl q).kind = 1))) (finW (blAt c.bl q)) hqd (by decide) (fun i r s hi => by rw [dlB_at hqb]; rcases nine hi with rfl | rfl | rfl | rfl | rfl | rfl | rfl | rfl | rfl <;> simp [bcell, finW]) (by rw [dlB_at hqb]; rfl) (by rw [dlB_at hqb]; rfl)
          rw [dlB_step hqb] at hs
          have HBL2 := HBL1.out.setCell (p := ⟨g, q * 9 + 5, none⟩) hgl (.bool ((blAt c.bl q).wr && decide ((blAt c.bl q).kind = 1)))
          generalize blAt c.bl q = b at *
          obtain ⟨th, kd, f, la, nm, bw, er, rd, wt⟩ := b
          simp only at c1 c5 hs HBL2
          have i1 : (0 : Int) ≤ (q : Int) := by omega
          have i2 : (q : Int) < (n : Int) := by omega
          clear hcj hqb hqd hgl HB1 HBL1
          have hor : bw = false ∨ bw = true ∧ kd = 1 ∨ bw = true ∧ ¬ kd = 1 := by
            cases bw with
            | false => exact .inl rfl
            | true =>
              by_cases hk : kd = 1
              · exact .inr (.inl ⟨rfl, hk⟩)
              · exact .inr (.inr ⟨rfl, hk⟩)
          rcases hor with rfl | ⟨rfl, rfl⟩ | ⟨rfl, hk⟩
          · simp only [Bool.false_and] at hs HBL2
            have HS2 := Lib.hid hs
            have HBL3 := Lib.hid HBL2
            clear hs HBL2
            go_wp2
            go_roundw
            case rel => exact ⟨q + 1, hqn, by go_num, HS2, HBL3⟩
            case measure => simp [intOf]; omega
          · simp only [Bool.true_and, decide_true] at hs HBL2
            have HS2 := Lib.hid hs
            have HBL3 := Lib.hid HBL2
            clear hs HBL2
            go_wp2
            go_roundw
            case rel => exact ⟨q + 1, hqn, by go_num, HS2, HBL3⟩
            case measure => simp [intOf]; omega
          · simp only [Bool.true_and, decide_eq_false hk] at hs HBL2
            have hk' : (kd == 1) = false := by simpa using hk
            have HS2 := Lib.hid hs
            have HBL3 := Lib.hid HBL2
            clear hs HBL2 hk
            go_wp2
            go_roundw
            case rel => exact ⟨q + 1, hqn, by go_num, HS2, HBL3⟩
            case measure => simp [intOf]; omega
        · obtain rfl : q = n := by omega
          go_wp2
          go_ret2
          obtain ⟨h1, h2⟩ := HN.out
          have hr := HR.out
          have hb := HB1.out
          subst hr
          rw [h1, dlB_end] at hb
          refine ⟨Ab, cb, hd, Al, cl, ?_, hb, HBL1.out⟩
          rw [← h1]
          rfl
end Go.Proofs.Ytjifpjfinffamaa
end
