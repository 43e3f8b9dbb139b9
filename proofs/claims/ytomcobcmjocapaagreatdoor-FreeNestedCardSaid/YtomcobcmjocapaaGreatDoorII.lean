/- works. -/
import Derived.Test.YtomcobcmjocapaaGreatDoorHH
namespace Go.Proofs.YtomcobcmjocapaaGreatDoor
open Go.RowKit Go.MuLone
/-- a list in a fresh block -/
theorem RK.fresh {kd : IntKind} {w : World} {E : TypeId} {fr : Nat × Nat} (xs : List Int) (cs : Array Value) (hcs : cs.toList = xs.map (Value.int kd)) (b : Nat) (h : w.heap[b]? = some (.cells cs E fr)) : RK kd w w.heap.size (some ⟨b, 0, none⟩) xs := by
  intro hn
  have hb : b < w.heap.size := (Array.getElem?_eq_some_iff.1 h).1
  refine ⟨b, 0, rfl, hb, fun i hi => ?_⟩
  rw [Nat.zero_add]
  refine cell_of_row w b i cs E fr h |>.trans ?_
  have : cs[i]? = (xs.map (Value.int kd))[i]? := by rw [← hcs, Array.getElem?_toList]
  rw [this]
  simp [hi]
set_option maxRecDepth 100000 in
set_option maxHeartbeats 6400000 in
theorem works (w : World) (hd : Deb w) (h1 : 1 < w.heap.size) : Calls Tryz.prog 4 #[] w fun e w' => e = .returned (.bool true) ∧ Below w.heap.size w w' := by
  obtain ⟨w1, hw1⟩ : ∃ w1, w1 = w.alloc (.cells #[.int .u64 5] 23) := ⟨_, rfl⟩
  have hb1 : Below w.heap.size w w1 := by rw [hw1]; exact (Below.refl _ w).alloc (Nat.le_refl _) _
  have hs1 : w1.heap.size = w.heap.size + 1 := by rw [hw1]; simp
  have hr1 : RK .u64 w1 w1.heap.size (some ⟨w.heap.size, 0, none⟩) [5] := RK.fresh [5] #[.int .u64 5] rfl w.heap.size (by rw [hw1]; exact heap_at _ _ _ rfl)
  have HN := Lib.hid (freeNew w1 (some ⟨w.heap.size, 0, none⟩) 1 2 [5] hr1 (by omega) (by simp) (by omega))
  have HW1 := Lib.hid hw1
  have HB1 := Lib.hid hb1
  have HS1 := Lib.hid hs1
  have HD := Lib.hid hd
  clear hr1 hw1 hb1 hs1 hd
  go_enter Tryz.func4, Tryz.ntmps4
  go_wp2_with (go_at_call 5; refine halt_ ?_)
  refine Halt_.go ?_
  rw [← HW1.out]
  refine HN.out.mono ?_
  rintro e w2 ⟨m, cb, g, sc, ch, rfl, hm2, hb2⟩
  have H8 := Lib.hid (num8 w2 0)
  have hws : wk 2 [5] ([5] : List Int).length = [5, 0] := rfl
  rw [hws] at hm2
  have hb02 := HB1.out.trans (hb2.mono (by have := HS1.out; omega))
  have hd2 := HD.out.below hb02 h1
  have h12 : 1 < w2.heap.size := by have := hb02.size; omega
  have HAT := Lib.hid (atomically14 w2 hm2 (by simp) (.inl rfl) 1 6 (by simp) (by
    intro wz w3 I hbz hsz ht3 hm3 hb3
    have hb : Below w2.heap.size w2 w3 := hbz.trans (hb3.mono hbz.size)
    have hl : Lies wz.heap.size m cb g sc := by
      have := hm2.blk.lt; have := hm2.cel.lt; have := hm2.lch
      exact ⟨by omega, by omega, by omega, by omega⟩
    refine (blk14 w3 hm3 ht3 hl (hd2.below hb h12) (by simp) rfl (.inl rfl) rfl (by simp) (by omega)).mono ?_
    rintro e w4 ⟨rfl, I', ht4, hm4, hb4⟩
    refine ⟨rfl, I', 0, [(((0 : Nat) : Int), 5)], ht4, hm4, hb3.trans hb4, .inl rfl, by simp, fun p hp => ?_⟩
    simp only [List.mem_singleton] at hp
    subst hp
    exact ⟨0, rfl, by simp⟩))
  have HB2 := Lib.hid hb02
  have HM2 := Lib.hid hm2
  have HLO := Lib.hid hm2.lch
  clear hm2 hb2 hws hb02 hd2 HN
  go_wp2_with (go_at_call 8; refine halt_ ?_)
  refine Halt_.go ?_
  refine H8.out.mono ?_
  rintro e w3 ⟨rfl, rfl⟩
  clear H8
  go_wp2_with (go_at_call 6; refine halt_ ?_)
  refine Halt_.go ?_
  refine HAT.out.mono ?_
  rintro e w4 ⟨rfl, ch4, hm4, hx4⟩
  have hmge : w1.heap.size ≤ m ∧ w1.heap.size ≤ g ∧ w1.heap.size ≤ ch := ⟨HM2.out.blk.lt.1, HM2.out.cel.lt.2.2.1, HLO.out.1⟩
  have hb4 : Below w.heap.size w w4 := hx4.below HB2.out (fun k hk h => by have := HS1.out; omega) HB2.out.size
  have hd4 := HD.out.below hb4 h1
  replace hm4 : MemR w4 w1.heap.size m cb g sc ch4 [5, 6] 2 0 0 false := hm4
  obtain ⟨w5, hw5⟩ : ∃ w5, w5 = w4.alloc (.cells #[.func (.func 16) #[] #[], .func (.func 17) #[] #[]] 38) := ⟨_, rfl⟩
  have hb45 : Below w4.heap.size w4 w5 := by rw [hw5]; exact (Below.refl _ _).alloc (Nat.le_refl _) _
  have hm5 := hm4.ex (Ex.of_below hb45) (S := fun _ => False) id id id id id
  have hn5 : w5.heap[w4.heap.size]? = some (.cells #[.func (.func 16) #[] #[], .func (.func 17) #[] #[]] 38 (0, 0)) := by rw [hw5]; exact heap_at _ _ _ rfl
  have hb5 := hb4.trans (hb45.mono hb4.size)
  have HEI := Lib.hid (eitherTwo w5 hm5 (HD.out.below hb5 h1) (by have := hb5.size; omega) (by simp) (.inr rfl) (by simp) w4.heap.size 2 (cell_of_row w5 _ 0 _ _ _ hn5) (cell_of_row w5 _ 1 _ _ _ hn5))
  have HW5 := Lib.hid hw5
  have HB5 := Lib.hid hb5
  have HM5 := Lib.hid hm5
  clear hmge hb4 hd4 hm4 hx4 hw5 hb45 hm5 hn5 hb5 HAT HB2 HM2 h12
  go_wp2_with (go_at_call 15; refine halt_ ?_)
  refine Halt_.go ?_
  rw [← HW5.out]
  refine HEI.out.mono ?_
  rintro e w6 ⟨rfl, ch6, hm6, hx6⟩
  have hb6 : Below w.heap.size w w6 := hx6.below HB5.out (fun k hk h => by have := HS1.out; have h2 := HM5.out.blk.lt.1; have h3 := HM5.out.cel.lt.2.2.1; have h4 := HM5.out.lch.1; omega) HB5.out.size
  replace hm6 : MemR w6 w1.heap.size m cb g sc ch6 [5, 8] 4 0 0 false := hm6
  have H8 := Lib.hid (num8 w6 0)
  have HWD := Lib.hid (memWords w6 hm6 (.inr (.inr rfl)) (by simp))
  have HM6 := Lib.hid hm6
  have HB6 := Lib.hid hb6
  clear hm6 hx6 hb6 HEI HB5 HM5 HW5 HLO
  go_wp2_with (go_at_call 8; refine halt_ ?_)
  refine Halt_.go ?_
  refine H8.out.mono ?_
  rintro e w7 ⟨rfl, rfl⟩
  go_wp2_with (go_at_call 8; refine halt_ ?_)
  refine Halt_.go ?_
  refine H8.out.mono ?_
  rintro e w7 ⟨rfl, rfl⟩
  clear H8
  go_wp2_with (go_at_call 12; refine halt_ ?_)
  refine Halt_.go ?_
  refine HWD.out.mono ?_
  rintro e w8 ⟨A, c, rfl, hown, hb78⟩
  obtain ⟨w9, hw9⟩ : ∃ w9, w9 = w8.alloc (.cells #[.int .u64 5, .int .u64 8] 23) := ⟨_, rfl⟩
  have hb89 : Below w8.heap.size w8 w9 := by rw [hw9]; exact (Below.refl _ _).alloc (Nat.le_refl _) _
  have hrk : RK .u64 w9 w9.heap.size A [5, 8] := (RK.of_own (own_below hown hb89) : _)
  have hrk2 : RK .u64 w9 w9.heap.size (some ⟨w8.heap.size, 0, none⟩) [5, 8] := RK.fresh [5, 8] #[.int .u64 5, .int .u64 8] rfl w8.heap.size (by rw [hw9]; exact heap_at _ _ _ rfl)
  have HKW := Lib.hid (kitWords w9 A (some ⟨w8.heap.size, 0, none⟩) c 2 [5, 8] [5, 8] hrk hrk2 (by simp))
  have hb79 := hb78.trans (hb89.mono hb78.size)
  have HB9 := Lib.hid (HB6.out.trans (hb79.mono HB6.out.size))
  have HM9 := Lib.hid (HM6.out.ex (Ex.of_below hb79) (S := fun _ => False) id id id id id)
  have HW9 := Lib.hid hw9
  clear hown hb78 hw9 hb89 hrk hrk2 hb79 HWD HB6 HM6
  go_wp2_with (go_at_call 11; refine halt_ ?_)
  refine Halt_.go ?_
  rw [← HW9.out]
  refine HKW.out.mono ?_
  rintro e w10 ⟨rfl, hb10⟩
  have HNU := Lib.hid (memNumber w10 (HM9.out.ex (Ex.of_below hb10) (S := fun _ => False) id id id id id) (.inr (.inr rfl)))
  have HB10 := Lib.hid (HB9.out.trans (hb10.mono HB9.out.size))
  clear hb10 HKW HM9 HB9 HW9
  simp only [decide_true]
  go_wp2_with (go_at_call 13; refine halt_ ?_)
  refine Halt_.go ?_
  refine HNU.out.mono ?_
  rintro e w11 ⟨rfl, rfl⟩
  go_wp2
  go_ret
  exact ⟨rfl, HB10.out⟩
end Go.Proofs.YtomcobcmjocapaaGreatDoor
