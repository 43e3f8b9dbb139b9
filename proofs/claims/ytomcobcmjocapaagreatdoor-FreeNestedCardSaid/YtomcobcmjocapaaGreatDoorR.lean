/- begin: a tx is made. -/
import Derived.Test.YtomcobcmjocapaaGreatDoorQ
namespace Go.Proofs.YtomcobcmjocapaaGreatDoor
open Go.RowKit Go.MuLone
theorem row_of_heap {w : World} {base E size b n : Nat} {cs : Array Value} {xs : List Value} (h : w.heap[b]? = some (.cells cs E (0, 0))) (hb : base ≤ b) (hn : cs.size = n * size) (hx : cs.toList = xs) (hm : n ≤ maxLen) :
    w.ownsRow base E size (.slice (some ⟨b, 0, none⟩) n n) n xs := by
  have hl : xs.length = n * size := by rw [← hx]; simpa using hn
  refine ⟨hl, .inr ⟨b, n, cs, rfl, hb, h, Nat.le_refl _, hm, hn, ?_⟩⟩
  rw [hx, ← hl]
  simp
theorem Blk.of_heap {w : World} {base t b n : Nat} {f : Nat → Value} {cs : Array Value} (h : w.heap[b]? = some (.cells cs t (0, 0))) (hb : base ≤ b) (hn : cs.size = n) (hv : ∀ i, i < n → cs[i]? = some (f i)) : Blk w base t b n f := by
  unfold Blk
  refine ⟨by simp, .inr ⟨b, 1, cs, rfl, hb, h, Nat.le_refl _, by decide, by omega, ?_⟩⟩
  apply List.ext_getElem?
  intro i
  by_cases hi : i < n
  · rw [List.getElem?_take_of_lt (by omega), Array.getElem?_toList, hv i hi]
    simp [hi]
  · rw [List.getElem?_eq_none (by simp; omega), List.getElem?_eq_none (by simp; omega)]
theorem info138 : (Tryz.prog.info? 138).map (fun i => (i.zero, i.size, i.bytes)) = some (some (.agg #[.bool false, .int .u64 0, .int .i64 0]), 3, 24) := by kernel_rfl
/-- the cells of eight free slots -/
def slots8 : Array Value := (slotL none).toArray
theorem slots8_eq : madeCells (Value.agg #[.bool false, .int .u64 0, .int .i64 0]).cells 24 = slots8 := by kernel_rfl
theorem mk138 (w : World) : (Instr.makeSlice 132 (.int .i64 8) (.int .i64 8)).run Tryz.prog w = .ok (.slice (some ⟨w.heap.size, 0, none⟩) 8 8) (w.alloc (.cells slots8 138)) := by
  obtain ⟨i, hi, hz, hsize, hby⟩ := info_parts info138
  have h := run_make (P := Tryz.prog) w 132 138 i _ Tryz.underlying132 hi hz .i64 .i64 8 8 (by omega) (by omega) (by rw [hby]; decide) (by decide)
  rw [hsize] at h
  have e8 : (8 : Int).toNat = 8 := rfl
  rw [e8, slots8_eq] at h
  exact h
set_option maxRecDepth 100000 in
theorem idxNew (w : World) : Calls Tryz.prog 56 #[] w fun e w' => ∃ sg tb, e = .returned (.pointer (some ⟨tb, 0, none⟩)) ∧ TabR w' w.heap.size tb sg (.slice none 0 0) none ∧ Below w.heap.size w w' := by
  have hmk := mk138
  go_enter Tryz.func56, Tryz.ntmps56
  go_wp2
  go_ret
  refine ⟨w.heap.size, w.heap.size + 1, rfl, ?_, ((Below.refl _ _).alloc (Nat.le_refl _) _).alloc (by simp) _⟩
  obtain ⟨w1, hw1⟩ : ∃ w1, w1 = w.alloc (.cells slots8 138) := ⟨_, rfl⟩
  rw [← hw1]
  have hs : w1.heap.size = w.heap.size + 1 := by rw [hw1]; simp
  have h1 : (w1.alloc (.cells #[.slice (some ⟨w.heap.size, 0, none⟩) 8 8, .slice none 0 0] 134)).heap[w.heap.size]? = some (.cells slots8 138 (0, 0)) := by
    rw [Below.heap_alloc _ _ _ (by omega), hw1]
    exact heap_at _ _ _ rfl
  refine ⟨Blk.of_heap (heap_at w1 _ _ hs) (by omega) rfl fun i hi => ?_, row_of_heap h1 (Nat.le_refl _) rfl rfl (by decide), World.ownsRow_nil _ _ _ _⟩
  have : i = 0 ∨ i = 1 := by omega
  rcases this with rfl | rfl <;> rfl
set_option maxRecDepth 100000 in
theorem newReads (w : World) : Calls Tryz.prog 38 #[.int .i64 1024] w fun e w' => e = .returned (.tuple #[.pointer (some ⟨w.heap.size, 0, none⟩), .int .i64 0]) ∧ ReadsR w' w.heap.size w.heap.size (.slice none 0 0) [] ∧ Below w.heap.size w w' := by
  go_enter Tryz.func38, Tryz.ntmps38
  go_wp2
  go_ret2
  refine ⟨rfl, ⟨Blk.of_heap (heap_at w _ _ rfl) (Nat.le_refl _) rfl fun i hi => ?_, World.ownsRow_nil _ _ _ _⟩, (Below.refl _ _).alloc (Nat.le_refl _) _⟩
  have : i = 0 ∨ i = 1 ∨ i = 2 := by omega
  rcases this with rfl | rfl | rfl <;> rfl
set_option maxRecDepth 100000 in
theorem newRedo (w : World) : Calls Tryz.prog 39 #[.int .i64 1024] w fun e w' => ∃ ro tb sg, e = .returned (.tuple #[.pointer (some ⟨ro, 0, none⟩), .int .i64 0]) ∧ RedoR w' w.heap.size ro tb sg (.slice none 0 0) (.slice none 0 0) (.slice none 0 0) none ∧ Below w.heap.size w w' := by
  go_enter Tryz.func39, Tryz.ntmps39
  go_wp2_with (go_at_call 56; refine halt_ ?_)
  refine Halt_.go ?_
  refine (idxNew w).mono ?_
  rintro e w1 ⟨sg, tb, rfl, ht, hb⟩
  have hs := hb.size
  have HT := Lib.hid ht
  have HB := Lib.hid hb
  clear ht hb
  go_wp2
  go_ret2
  refine ⟨w1.heap.size, tb, sg, rfl, ⟨Blk.of_heap (heap_at w1 _ _ rfl) hs rfl fun i hi => ?_, World.ownsRow_nil _ _ _ _, World.ownsRow_nil _ _ _ _, HT.out.kept2 fun k hk => Below.heap_alloc _ _ _ (HT.out.ltS hk)⟩, HB.out.alloc hs _⟩
  have : i = 0 ∨ i = 1 ∨ i = 2 ∨ i = 3 ∨ i = 4 := by omega
  rcases this with rfl | rfl | rfl | rfl | rfl <;> rfl
theorem ReadsR.base {w : World} {lo lo' rd : Nat} {vR : Value} {R : List (Int × Int)} (h : ReadsR w lo rd vR R) (hl : lo' ≤ lo) : ReadsR w lo' rd vR R := ⟨h.blk.base' hl, own_base h.row hl⟩
theorem RedoR.base {w : World} {lo lo' ro tb sg : Nat} {vD vP vK : Value} {D : Option (Int × Int)} (h : RedoR w lo ro tb sg vD vP vK D) (hl : lo' ≤ lo) : RedoR w lo' ro tb sg vD vP vK D := ⟨h.blk.base' hl, own_base h.row hl, own_base h.past hl, ⟨h.tab.blk.base' hl, own_base h.tab.row hl, own_base h.tab.keys hl⟩⟩
section
variable {lo0 m cb g sc ch : Nat} {ws : List Int} {ck st od : Int} {sb : Bool}
set_option maxRecDepth 100000 in
set_option maxHeartbeats 1600000 in
theorem txBegin (w : World) (hm : MemR w lo0 m cb g sc ch ws ck st od sb) (hev : ck = 0 ∨ ck = 2 ∨ ck = 4) :
    Calls Tryz.prog 29 #[.pointer (some ⟨m, 0, none⟩)] w fun e w' => ∃ I, e = .returned (.pointer (some ⟨w.heap.size, 0, none⟩)) ∧ TxR w' w.heap.size w.heap.size m I ck [] none 0 0 ∧ Below w.heap.size w w' := by
  have HO := Lib.hid (memOpen w hm hev)
  clear hm
  go_enter Tryz.func29, Tryz.ntmps29
  go_wp2_with (go_at_call 25; refine halt_ ?_)
  refine Halt_.go ?_
  refine HO.out.mono ?_
  rintro e w0 ⟨rfl, rfl⟩
  clear HO
  obtain ⟨w1, hw1⟩ : ∃ w1, w1 = w0.alloc (.cells #[.pointer (some ⟨m, 0, none⟩), .int .u64 ck, .pointer none, .pointer none, .int .i64 0, .int .u32 0] 78) := ⟨_, rfl⟩
  have hb1 : Below w0.heap.size w0 w1 := by rw [hw1]; exact (Below.refl _ _).alloc (Nat.le_refl _) _
  have hs1 : w1.heap.size = w0.heap.size + 1 := by rw [hw1]; simp
  have h1 : Blk w1 w0.heap.size 78 w0.heap.size 6 (fun i => if i = 0 then .pointer (some ⟨m, 0, none⟩) else if i = 1 then .int .u64 ck else if i = 2 then .pointer none else if i = 3 then .pointer none else if i = 4 then .int .i64 0 else .int .u32 0) := by
    refine Blk.of_heap (by rw [hw1]; exact heap_at w0 _ _ rfl) (Nat.le_refl _) rfl fun i hi => ?_
    have : i = 0 ∨ i = 1 ∨ i = 2 ∨ i = 3 ∨ i = 4 ∨ i = 5 := by omega
    rcases this with rfl | rfl | rfl | rfl | rfl | rfl <;> rfl
  have HW1 := Lib.hid hw1
  clear hw1
  go_wp2_with (go_at_call 38; refine halt_ ?_)
  refine Halt_.go ?_
  rw [← HW1.out]
  refine (newReads w1).mono ?_
  rintro e w2 ⟨rfl, hr, hb2⟩
  have h2 := h1.kept (hb2.block w0.heap.size (by omega))
  obtain ⟨c2, z2⟩ := h2.cell (j := 2) (by omega)
  replace c2 : w2.cell? ⟨w0.heap.size, 2, none⟩ = some (.pointer none) := c2
  have hs2 := hb2.size
  obtain ⟨w3, hw3⟩ : ∃ w3, w3 = w2.setCell ⟨w0.heap.size, 2, none⟩ (.pointer (some ⟨w1.heap.size, 0, none⟩)) := ⟨_, rfl⟩
  have hset3 : ∀ k, k ≠ w0.heap.size → w3.heap[k]? = w2.heap[k]? := fun k hk => by rw [hw3]; exact Below.heap_setCell w2 _ _ k hk
  have hs3 : w3.heap.size = w2.heap.size := by rw [hw3]; simp
  have h3 : Blk w3 w0.heap.size 78 w0.heap.size 6 (fun i => if i = 2 then .pointer (some ⟨w1.heap.size, 0, none⟩) else if i = 0 then .pointer (some ⟨m, 0, none⟩) else if i = 1 then .int .u64 ck else if i = 2 then .pointer none else if i = 3 then .pointer none else if i = 4 then .int .i64 0 else .int .u32 0) := by
    rw [hw3]; exact h2.set 2 _
  have hr3 : ReadsR w3 w1.heap.size w1.heap.size (.slice none 0 0) [] := hr.kept fun k hk => hset3 k (by have := (hr.lt hk).1; omega)
  have hb3 : Below w0.heap.size w0 w3 := by
    refine ⟨?_, ?_, ?_, by omega, fun k hk => (hset3 k (by omega)).trans ((hb2.block k (by omega)).trans (hb1.block k hk))⟩
    · rw [hw3]; exact hb2.os.trans hb1.os
    · rw [hw3]; exact hb2.tape.trans hb1.tape
    · rw [hw3]; exact hb2.output.trans hb1.output
  have HW3 := Lib.hid hw3
  have H3 := Lib.hid h3
  have HR3 := Lib.hid hr3
  have HB3 := Lib.hid hb3
  clear hw3 hr hb2 h1 h2 hset3 h3 hr3 hb3 hb1
  go_wp2_with (go_at_call 39; refine halt_ ?_)
  refine Halt_.go ?_
  rw [← hs1, ← HW3.out]
  refine (newRedo w3).mono ?_
  rintro e w4 ⟨ro, tb, sg, rfl, hd, hb4⟩
  have h4 := H3.out.kept (hb4.block w0.heap.size (by omega))
  obtain ⟨c3, z3⟩ := h4.cell (j := 3) (by omega)
  replace c3 : w4.cell? ⟨w0.heap.size, 3, none⟩ = some (.pointer none) := c3
  have HFIN : Hid (TxR (w4.setCell ⟨w0.heap.size, 3, none⟩ (.pointer (some ⟨ro, 0, none⟩))) w0.heap.size w0.heap.size m ⟨w1.heap.size, ro, tb, sg, .slice none 0 0, .slice none 0 0, .slice none 0 0, .slice none 0 0⟩ ck [] none 0 0) := by
    have hset : ∀ k, k ≠ w0.heap.size → (w4.setCell ⟨w0.heap.size, 3, none⟩ (.pointer (some ⟨ro, 0, none⟩))).heap[k]? = w4.heap[k]? := fun k hk => Below.heap_setCell w4 _ _ k hk
    refine ⟨(h4.set 3 _).congr fun i hi => ?_, (HR3.out.kept fun k hk => ?_).base (by omega), (hd.kept fun k hk => hset k (by have := (hd.lt hk).1; omega)).base (by omega), fun k hk => by cases hk⟩
    · have : i = 0 ∨ i = 1 ∨ i = 2 ∨ i = 3 ∨ i = 4 ∨ i = 5 := by omega
      rcases this with rfl | rfl | rfl | rfl | rfl | rfl <;> rfl
    · have := HR3.out.lt hk
      exact (hset k (by omega)).trans (hb4.block k (by omega))
  have HB : Hid (Below w0.heap.size w0 (w4.setCell ⟨w0.heap.size, 3, none⟩ (.pointer (some ⟨ro, 0, none⟩)))) := by
    have h34 := HB3.out.trans (hb4.mono (by omega))
    exact ⟨h34.os, h34.tape, h34.output, by simpa using h34.size, fun k hk => (Below.heap_setCell w4 ⟨w0.heap.size, 3, none⟩ _ k (show k ≠ w0.heap.size by omega)).trans (h34.block k hk)⟩
  clear hd hb4 h4 H3 HR3 HB3
  go_wp2
  go_ret
  exact ⟨_, rfl, HFIN.out, HB.out⟩
end
end Go.Proofs.YtomcobcmjocapaaGreatDoor
