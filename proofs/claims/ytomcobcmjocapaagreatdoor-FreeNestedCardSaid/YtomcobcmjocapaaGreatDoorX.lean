/- free.New: a memory is made. -/
import Derived.Test.YtomcobcmjocapaaGreatDoorW
set_option linter.unusedSimpArgs false
namespace Go.Proofs.YtomcobcmjocapaaGreatDoor
open Go.RowKit Go.MuLone
/-- the memory's cells as they are laid -/
def memA (cb sc ch : Nat) : Array Value := #[.pointer (some ⟨cb, 0, none⟩), .int .u64 0, .int .u32 0, .chan (some sc), .int .u32 0, .int .i32 0, .int .u32 0, .int .i64 0, .int .i32 0, .int .u32 0, .chan (some ch)]
theorem mem_made {w1 w' : World} {lo cb g sc ch : Nat} {ws : List Int} (hc : CelR w1 lo cb g ws) (hlo : lo ≤ w1.heap.size) (hb : Below w1.heap.size w1 w') (hs : w'.heap.size = w1.heap.size + 3)
    (h1 : w'.heap[sc]? = some (.chan 0 #[] false 0 0 false)) (h2 : w'.heap[ch]? = some (.chan 0 #[] false 0 0 false)) (h3 : w'.heap[w1.heap.size + 2]? = some (.cells (memA cb sc ch) 68 (0, 0)))
    (hn : w1.heap.size ≤ sc ∧ sc < w1.heap.size + 2 ∧ w1.heap.size ≤ ch ∧ ch < w1.heap.size + 2 ∧ ch ≠ sc) : MemR w' lo (w1.heap.size + 2) cb g sc ch ws 0 0 0 false := by
  have hl := hc.lt
  refine ⟨Blk.of_heap h3 (by omega) rfl fun i hi => ?_, hc.kept (hb.block _ hl.2.1) (hb.block _ hl.2.2.2), h2, h1, by omega⟩
  rcases eleven hi with rfl | rfl | rfl | rfl | rfl | rfl | rfl | rfl | rfl | rfl | rfl <;> rfl
set_option maxRecDepth 100000 in
set_option maxHeartbeats 6400000 in
theorem freeNew (w : World) (A : Option Addr) (c n : Nat) (ws : List Int) (hr : RK .u64 w w.heap.size A ws) (h0 : 0 < n) (hle : ws.length ≤ n) (hl : n ≤ 65536) :
    Calls Tryz.prog 5 #[.int .i64 n, .slice A ws.length c] w fun e w' => ∃ m cb g sc ch, e = .returned (.tuple #[.pointer (some ⟨m, 0, none⟩), .int .i64 0]) ∧ MemR w' w.heap.size m cb g sc ch (wk n ws ws.length) 0 0 0 false ∧ Below w.heap.size w w' := by
  have H := Lib.hid (cellsNew w A c n ws hr h0 hle hl)
  have hmk := mkChan47
  clear hr h0 hle hl
  go_enter Tryz.func5, Tryz.ntmps5
  go_wp2_with (go_at_call 18; refine halt_ ?_)
  refine Halt_.go ?_
  refine H.out.mono ?_
  rintro e w1 ⟨cb, g, rfl, hc, hb⟩
  have HC := Lib.hid hc
  have HB := Lib.hid hb
  clear hc hb H
  go_wp2
  refine wp_region_C (S := fun _ => True) 6 (by kernel_rfl) trivial (fun hHeld => ?_)
  refine wpAnyC_any (i := 0) (oi := _) (v := ?v0) rfl (by kernel_rfl) (by kernel_rfl) (by kernel_rfl) (by kernel_rfl) (fun _ _ _ h => h) (Or.inl ⟨by rfl, ?hy0⟩) (fun _ => trivial) ?rest0
  case hy0 => ((intro w _; go_simp); (try with_reducible rfl))
  (try simp only [Act.put, Array.getInternal_eq_getElem, List.getElem_toArray, List.getElem_cons_zero, List.getElem_cons_succ, List.setIfInBounds_toArray, List.set_cons_zero, List.set_cons_succ])
  refine wpAnyC_two (i := 1) (j := 2) (oi := _) (oj := _) (by kernel_rfl) rfl rfl (fun K hK => ?_) (fun K hK => ?_)
  · go_simp
    refine hK.out _ _ trivial (fun hHeldN => ?_)
    clear hK K hHeldN
    (try simp only [Act.put, Array.getInternal_eq_getElem, List.getElem_toArray, List.getElem_cons_zero, List.getElem_cons_succ, List.setIfInBounds_toArray, List.set_cons_zero, List.set_cons_succ])
    refine wpAnyC_one (i := 2) (o := _) (by kernel_rfl) rfl (fun K hK => ?_)
    go_simp
    refine hK.out _ _ trivial (fun hHeldN => ?_)
    clear hK K hHeldN
    (try simp only [Act.put, Array.getInternal_eq_getElem, List.getElem_toArray, List.getElem_cons_zero, List.getElem_cons_succ, List.setIfInBounds_toArray, List.set_cons_zero, List.set_cons_succ])
    refine wpAnyC_one (i := 3) (o := _) (by kernel_rfl) rfl (fun K hK => ?_)
    go_simp
    refine hK.out _ _ trivial (fun hHeldN => ?_)
    clear hK K hHeldN
    (try simp only [Act.put, Array.getInternal_eq_getElem, List.getElem_toArray, List.getElem_cons_zero, List.getElem_cons_succ, List.setIfInBounds_toArray, List.set_cons_zero, List.set_cons_succ])
    refine wpAnyC_one (i := 4) (o := _) (by kernel_rfl) rfl (fun K hK => ?_)
    go_simp
    refine hK.out _ _ trivial (fun hHeldN => ?_)
    clear hK K hHeldN
    (try simp only [Act.put, Array.getInternal_eq_getElem, List.getElem_toArray, List.getElem_cons_zero, List.getElem_cons_succ, List.setIfInBounds_toArray, List.set_cons_zero, List.set_cons_succ])
    refine wpAnyC_one (i := 5) (o := _) (by kernel_rfl) rfl (fun K hK => ?_)
    go_simp
    refine hK.out _ _ trivial (fun hHeldN => ?_)
    clear hK K hHeldN
    (try simp only [Act.put, Array.getInternal_eq_getElem, List.getElem_toArray, List.getElem_cons_zero, List.getElem_cons_succ, List.setIfInBounds_toArray, List.set_cons_zero, List.set_cons_succ])
    refine wpAnyC_last (o := _) (by kernel_rfl) rfl (fun K hK => ?_)
    go_simp
    refine hK.out _ _ ?_
    clear hK K
    refine wpAnyC_done (by kernel_rfl) ?_ _
    obtain ⟨S, hS⟩ : ∃ S, S = w1.heap.size := ⟨_, rfl⟩
    obtain ⟨w', hw'⟩ : ∃ w', w' = (((w1.alloc (.chan 0 #[] false 0 0 false)).alloc (.chan 0 #[] false 0 0 false)).alloc (.cells (memA cb (w1.heap.size) (w1.heap.size + 1)) 68)).drew := ⟨_, rfl⟩
    have hb' : Below w1.heap.size w1 w' := by rw [hw']; exact bdrewN ((((Below.refl _ w1).alloc (Nat.le_refl _) _).alloc (by simp) _).alloc (by simp; omega) _) 1
    have hm := mem_made (w' := w') (sc := w1.heap.size) (ch := w1.heap.size + 1) HC.out HB.out.size hb' (by rw [hw']; show (World.heap (World.alloc _ _)).size = _; simp)
      (by rw [hw']; show (World.heap (World.alloc _ _))[_]? = _; exact (Go.heap_alloc_old _ _ (by simp; omega)).trans ((Go.heap_alloc_old _ _ (by simp)).trans (heap_at _ _ _ rfl))) (by rw [hw']; show (World.heap (World.alloc _ _))[_]? = _; exact (Go.heap_alloc_old _ _ (by simp)).trans (heap_at _ _ _ (by simp))) (by rw [hw']; show (World.heap (World.alloc _ _))[_]? = _; exact heap_at _ _ _ (by simp)) (by omega)
    have HM := Lib.hid hm
    have HB' := Lib.hid (HB.out.trans (hb'.mono HB.out.size))
    clear hm hb'
    have HW' := Lib.hid hw'
    clear hw' hS
    go_wp2
    go_ret2
    have hw' := HW'.out
    subst hw'
    exact ⟨_, _, _, _, _, rfl, HM.out, HB'.out⟩
  · go_simp
    refine hK.out _ _ trivial (fun hHeldN => ?_)
    clear hK K hHeldN
    (try simp only [Act.put, Array.getInternal_eq_getElem, List.getElem_toArray, List.getElem_cons_zero, List.getElem_cons_succ, List.setIfInBounds_toArray, List.set_cons_zero, List.set_cons_succ])
    refine wpAnyC_one (i := 1) (o := _) (by kernel_rfl) rfl (fun K hK => ?_)
    go_simp
    refine hK.out _ _ trivial (fun hHeldN => ?_)
    clear hK K hHeldN
    (try simp only [Act.put, Array.getInternal_eq_getElem, List.getElem_toArray, List.getElem_cons_zero, List.getElem_cons_succ, List.setIfInBounds_toArray, List.set_cons_zero, List.set_cons_succ])
    refine wpAnyC_one (i := 3) (o := _) (by kernel_rfl) rfl (fun K hK => ?_)
    go_simp
    refine hK.out _ _ trivial (fun hHeldN => ?_)
    clear hK K hHeldN
    (try simp only [Act.put, Array.getInternal_eq_getElem, List.getElem_toArray, List.getElem_cons_zero, List.getElem_cons_succ, List.setIfInBounds_toArray, List.set_cons_zero, List.set_cons_succ])
    refine wpAnyC_one (i := 4) (o := _) (by kernel_rfl) rfl (fun K hK => ?_)
    go_simp
    refine hK.out _ _ trivial (fun hHeldN => ?_)
    clear hK K hHeldN
    (try simp only [Act.put, Array.getInternal_eq_getElem, List.getElem_toArray, List.getElem_cons_zero, List.getElem_cons_succ, List.setIfInBounds_toArray, List.set_cons_zero, List.set_cons_succ])
    refine wpAnyC_one (i := 5) (o := _) (by kernel_rfl) rfl (fun K hK => ?_)
    go_simp
    refine hK.out _ _ trivial (fun hHeldN => ?_)
    clear hK K hHeldN
    (try simp only [Act.put, Array.getInternal_eq_getElem, List.getElem_toArray, List.getElem_cons_zero, List.getElem_cons_succ, List.setIfInBounds_toArray, List.set_cons_zero, List.set_cons_succ])
    refine wpAnyC_last (o := _) (by kernel_rfl) rfl (fun K hK => ?_)
    go_simp
    refine hK.out _ _ ?_
    clear hK K
    refine wpAnyC_done (by kernel_rfl) ?_ _
    obtain ⟨S, hS⟩ : ∃ S, S = w1.heap.size := ⟨_, rfl⟩
    obtain ⟨w', hw'⟩ : ∃ w', w' = (((w1.alloc (.chan 0 #[] false 0 0 false)).alloc (.chan 0 #[] false 0 0 false)).alloc (.cells (memA cb (w1.heap.size + 1) (w1.heap.size)) 68)).drew := ⟨_, rfl⟩
    have hb' : Below w1.heap.size w1 w' := by rw [hw']; exact bdrewN ((((Below.refl _ w1).alloc (Nat.le_refl _) _).alloc (by simp) _).alloc (by simp; omega) _) 1
    have hm := mem_made (w' := w') (sc := w1.heap.size + 1) (ch := w1.heap.size) HC.out HB.out.size hb' (by rw [hw']; show (World.heap (World.alloc _ _)).size = _; simp)
      (by rw [hw']; show (World.heap (World.alloc _ _))[_]? = _; exact (Go.heap_alloc_old _ _ (by simp)).trans (heap_at _ _ _ (by simp))) (by rw [hw']; show (World.heap (World.alloc _ _))[_]? = _; exact (Go.heap_alloc_old _ _ (by simp; omega)).trans ((Go.heap_alloc_old _ _ (by simp)).trans (heap_at _ _ _ rfl))) (by rw [hw']; show (World.heap (World.alloc _ _))[_]? = _; exact heap_at _ _ _ (by simp)) (by omega)
    have HM := Lib.hid hm
    have HB' := Lib.hid (HB.out.trans (hb'.mono HB.out.size))
    clear hm hb'
    have HW' := Lib.hid hw'
    clear hw' hS
    go_wp2
    go_ret2
    have hw' := HW'.out
    subst hw'
    exact ⟨_, _, _, _, _, rfl, HM.out, HB'.out⟩
end Go.Proofs.YtomcobcmjocapaaGreatDoor
