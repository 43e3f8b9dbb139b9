/- Stop. -/
import Derived.Test.YtomcobcmjocapaaGreatDoorU
namespace Go.Proofs.YtomcobcmjocapaaGreatDoor
open Go.RowKit Go.MuLone
section
variable {lo0 m cb g sc ch : Nat} {ws : List Int} {ck st od : Int} {sb : Bool}
theorem stop1 (w : World) (bx : Nat) (hb : w.cell? ⟨bx, 0, none⟩ = some (.pointer (some ⟨m, 0, none⟩))) (h3 : w.cell? ⟨m, 3, none⟩ = some (.chan (some sc))) (hs : w.heap[sc]? = some (.chan 0 #[] false 0 0 false)) :
    Calls Tryz.prog 24 #[.pointer (some ⟨bx, 0, none⟩)] w fun e w' => e = .returned (.tuple #[]) ∧ w' = w.putObj sc (.chan 0 #[] true 0 0 false) := by
  have hc := run_close hs #[47] 0
  go_enter Tryz.func24, Tryz.ntmps24
  go_wp2
  go_end0
  exact ⟨rfl, rfl⟩
set_option maxRecDepth 100000 in
set_option maxHeartbeats 6400000 in
theorem onceSlow (w : World) (h : MemR w lo0 m cb g sc ch ws ck st 0 false) (bx : Nat) (hb : w.cell? ⟨bx, 0, none⟩ = some (.pointer (some ⟨m, 0, none⟩))) (hbm : bx ≠ m) :
    Calls Tryz.prog 36 #[.pointer (some ⟨m, 4, none⟩), .func (.func 24) #[] #[.pointer (some ⟨bx, 0, none⟩)]] w fun e w' => e = .returned (.tuple #[]) ∧ MemR w' lo0 m cb g sc ch ws ck st 1 true ∧ Ex w w' (fun k => k = m ∨ k = sc) := by
  obtain ⟨m5, z5⟩ := h.c (i := 5) (by omega)
  have HLK := Lib.hid (lock_free muLib ⟨m, 5, none⟩ w m5 z5)
  have hne := h.toP.m_ne
  have HH := Lib.hid h
  obtain ⟨w1, hw1⟩ : ∃ w1, w1 = w.setCell ⟨m, 5, none⟩ (.int .i32 1) := ⟨_, rfl⟩
  have hs1 : ∀ k, k ≠ m → w1.heap[k]? = w.heap[k]? := fun k hk => by rw [hw1]; exact Below.heap_setCell w _ _ k hk
  have hb1 : Blk w1 lo0 68 m 11 (fun i => if i = 5 then .int .i32 1 else memF cb sc ch ck st 0 i) := by rw [hw1]; exact h.blk.set 5 _
  have hbl : bx < w.heap.size := World.block_lt_of_cell? w ⟨bx, 0, none⟩ hb
  have hb1x : w1.cell? ⟨bx, 0, none⟩ = some (.pointer (some ⟨m, 0, none⟩)) := (World.cell?_of_block (hs1 bx hbm)).trans hb
  have m4 : w1.cell? ⟨m, 4, none⟩ = some (.int .u32 0) := (hb1.cell (j := 4) (by omega)).1
  have m3 : w1.cell? ⟨m, 3, none⟩ = some (.chan (some sc)) := (hb1.cell (j := 3) (by omega)).1
  have HBL := Lib.hid (boolLoad w1 m4)
  have HST := Lib.hid (stop1 w1 bx hb1x m3 ((hs1 sc hne.2.2.2.1).trans h.schn))
  have HW1 := Lib.hid hw1
  have HB1 := Lib.hid hb1
  have HS1 := Lib.hid hs1
  have HNE := Lib.hid hne
  clear h m5 z5 hw1 hs1 hb1 hb1x m4 m3 hne
  go_enter_defers Tryz.func36, Tryz.ntmps36
  go_wp2_with (go_at_call 48; refine halt_ ?_)
  refine Halt_.go ?_
  refine HLK.out.mono ?_
  rintro e' w' ⟨rfl, rfl⟩
  rw [← HW1.out]
  go_wp2_with (go_at_call 35; refine halt_ ?_)
  refine Halt_.go ?_
  refine HBL.out.mono ?_
  rintro e' w' ⟨rfl, rfl⟩
  go_wp2_with (go_at_call 24; refine halt_ ?_)
  refine Halt_.go ?_
  refine HST.out.mono ?_
  rintro e' w2 ⟨rfl, hw2⟩
  have hs2 : ∀ k, k ≠ sc → w2.heap[k]? = w'.heap[k]? := fun k hk => by rw [hw2]; exact World.putObj_heap_other hk
  have hb2 := HB1.out.kept (hs2 m (Ne.symm HNE.out.2.2.2.1))
  obtain ⟨c4, z4⟩ := hb2.cell (j := 4) (by omega)
  have HSD := Lib.hid (boolStoreD ⟨m, 4, none⟩ _ .returning w2 c4 z4)
  have HW2 := Lib.hid hw2
  have HB2 := Lib.hid hb2
  have HS2 := Lib.hid hs2
  clear hw2 hb2 hs2 c4 z4
  go_wp2
  refine leaves_cons (f := 40) (args := #[.pointer (some ⟨m, 4, none⟩), .bool true]) (by simp) (by simp [go_sem]) ?_
  refine (HSD.out).mono ?_
  rintro e' u' w3 ⟨rfl, rfl, hw3⟩
  have hs3 : ∀ k, k ≠ m → w3.heap[k]? = w2.heap[k]? := fun k hk => by rw [hw3]; exact Below.heap_setCell w2 ⟨m, 4, none⟩ _ k hk
  have hb3 : Blk w3 lo0 68 m 11 (fun i => if i = 4 then .int .u32 1 else if i = 5 then .int .i32 1 else memF cb sc ch ck st 0 i) := by
    rw [hw3]
    exact (HB2.out.set 4 (.int .u32 1)).kept rfl
  obtain ⟨c5, z5⟩ := hb3.cell (j := 5) (by omega)
  refine leaves_cons (f := 49) (args := #[.pointer (some ⟨m, 5, none⟩)]) (by simp [settle]) (by simp [go_sem]) ?_
  refine (unlock_deferred muLib ⟨m, 5, none⟩ _ w3 c5 z5).mono ?_
  rintro e' u' w4 ⟨rfl, rfl, hw4⟩
  have hs4 : ∀ k, k ≠ m → w4.heap[k]? = w3.heap[k]? := fun k hk => by rw [hw4]; exact Below.heap_setCell w3 ⟨m, 5, none⟩ _ k hk
  have hb4 : Blk w4 lo0 68 m 11 (memF cb sc ch ck st 1) := by
    rw [hw4]
    refine (hb3.set 5 (.int .i32 0)).congr fun i hi => ?_
    rcases eleven hi with rfl | rfl | rfl | rfl | rfl | rfl | rfl | rfl | rfl | rfl | rfl <;> rfl
  have h0 := HH.out
  have hn := HNE.out
  have hk : ∀ k, k ≠ m → k ≠ sc → w4.heap[k]? = w.heap[k]? := fun k h1 h2 => (hs4 k h1).trans ((hs3 k h1).trans ((HS2.out k h2).trans (HS1.out k h1)))
  have hz : w4.heap.size = w.heap.size := by rw [hw4, hw3, HW2.out, HW1.out]; simp
  have hl := h0.lch
  refine ⟨_, results_none rfl _ _ _, rfl, ?_, ?_⟩
  · refine ⟨hb4, h0.cel.kept (hk cb hn.1 (Ne.symm hn.2.2.2.2.2.2.2.1)) (hk g hn.2.1 (Ne.symm hn.2.2.2.2.2.2.2.2)), (hk ch hn.2.2.1 hl.2.2.2.2).trans h0.chn, ?_, by rw [hz]; exact hl⟩
    rw [hs4 sc hn.2.2.2.1, hs3 sc hn.2.2.2.1, HW2.out]
    exact World.putObj_heap_same (by rw [HW1.out]; simpa using hl.2.2.2.1)
  · refine ⟨?_, ?_, ?_, by rw [hz]; exact Nat.le_refl _, fun k _ h => hk k (fun e => h (.inl e)) (fun e => h (.inr e))⟩
    · rw [hw4, hw3, HW2.out, HW1.out]; rfl
    · rw [hw4, hw3, HW2.out, HW1.out]; rfl
    · rw [hw4, hw3, HW2.out, HW1.out]; rfl
set_option maxRecDepth 100000 in
set_option maxHeartbeats 6400000 in
theorem memStop (w : World) (h : MemR w lo0 m cb g sc ch ws ck 0 0 false) : Calls Tryz.prog 10 #[.pointer (some ⟨m, 0, none⟩)] w fun e w' => e = .returned (.bool true) ∧ MemR w' lo0 m cb g sc ch ws ck 1 1 true ∧ Ex w w' (fun k => k = m ∨ k = sc) := by
  obtain ⟨w1, hw1⟩ : ∃ w1, w1 = w.alloc (.cells #[.pointer (some ⟨m, 0, none⟩)] 27) := ⟨_, rfl⟩
  obtain ⟨N0, hN0⟩ : ∃ N0, N0 = w.heap.size := ⟨_, rfl⟩
  have hb1 : Below w.heap.size w w1 := by rw [hw1]; exact (Below.refl _ _).alloc (Nat.le_refl _) _
  have hk1 : w1.heap[N0]? = some (.cells #[.pointer (some ⟨m, 0, none⟩)] 27 (0, 0)) := by rw [hw1, hN0]; exact heap_at _ _ _ rfl
  have h1 : MemR w1 lo0 m cb g sc ch ws ck 0 0 false := (h.toP.below hb1).toR
  have HN := Lib.hid (memNone w1 h1)
  have hml : m < w.heap.size := h.blk.lt.2
  have hmf := mkFn
  obtain ⟨m2, z2⟩ := h1.c (i := 2) (by omega)
  have HFS := Lib.hid (flagSet ⟨m, 2, none⟩ w1 m2 z2)
  have HH1 := Lib.hid h1
  have HW1 := Lib.hid hw1
  have HB1 := Lib.hid hb1
  have HK1 := Lib.hid hk1
  have HN0 := Lib.hid hN0
  have bx : w1.cell? ⟨N0, 0, none⟩ = some (.pointer (some ⟨m, 0, none⟩)) := cell_of_row _ _ 0 _ _ _ hk1
  have hNm : N0 ≠ m := by omega
  clear h h1 hw1 hb1 hk1 m2 z2
  go_enter Tryz.func10, Tryz.ntmps10
  go_wp2_with (go_at_call 19; refine halt_ ?_)
  refine Halt_.go ?_
  rw [← HW1.out]
  refine HN.out.mono ?_
  rintro e' w' ⟨rfl, rfl⟩
  rw [← HN0.out]
  clear hN0
  go_wp2_with (go_at_call 22; refine halt_ ?_)
  refine Halt_.go ?_
  refine HFS.out.mono ?_
  rintro e' w2 ⟨rfl, hw2⟩
  have hM2 : MemR w2 lo0 m cb g sc ch ws ck 1 0 false := by
    rw [hw2]
    exact (HH1.out.toP.setSt 1).toR.ex (S := fun _ => False) (Ex.refl _ _).drew id id id id id
  have hX2 : Ex w w2 (fun k => k = m ∨ k = sc) := by
    rw [hw2]
    exact ((Ex.of_below HB1.out).set _ _ fun _ => .inl rfl).drew
  have hs2 : ∀ k, k ≠ m → w2.heap[k]? = w'.heap[k]? := fun k hk => by rw [hw2]; exact Below.heap_setCell w' ⟨m, 2, none⟩ _ k hk
  have bx2 : w2.cell? ⟨N0, 0, none⟩ = some (.pointer (some ⟨m, 0, none⟩)) := (World.cell?_of_block (hs2 N0 hNm)).trans bx
  have HBL := Lib.hid (boolLoad w2 (hM2.c (i := 4) (by omega)).1)
  have HOS := Lib.hid (onceSlow w2 hM2 N0 bx2 hNm)
  have HX2 := Lib.hid hX2
  clear hw2 hM2 hX2 hs2 bx HFS HN
  go_wp2_with (first | (go_at_call 36; refine halt_ ?_) | (go_at_call 35; refine halt_ ?_) | (go_at_call 23; go_in))
  refine Halt_.go ?_
  refine HBL.out.mono ?_
  rintro e' w3 ⟨rfl, rfl⟩
  go_wp2_with (go_at_call 36; refine halt_ ?_)
  refine Halt_.go ?_
  refine HOS.out.mono ?_
  rintro e' w4 ⟨rfl, hM4, hX4⟩
  have HM4 := Lib.hid hM4
  have HX4 := Lib.hid (HX2.out.trans hX4 fun k _ h => h)
  clear hM4 hX4 HX2 HOS HBL
  go_wp2
  go_ret
  exact ⟨rfl, HM4.out, HX4.out⟩
end
end Go.Proofs.YtomcobcmjocapaaGreatDoor
