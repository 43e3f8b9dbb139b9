/- New: a memory is made. -/
import Derived.Test.YtomcobcmjocapaaGreatDoorV
namespace Go.Proofs.YtomcobcmjocapaaGreatDoor
open Go.RowKit Go.MuLone
theorem info52 : (Tryz.prog.info? 52).map (fun i => (i.zero, i.size, i.bytes)) = some (some (.agg #[.int .u64 0]), 1, 8) := by kernel_rfl
theorem cells52 : (Value.agg #[.int .u64 0]).cells = #[.int .u64 0] := by kernel_rfl
theorem mk81 (w : World) (n : Nat) (hn : n ≤ 65536) : (Instr.makeSlice 81 (.int .i64 n) (.int .i64 n)).run Tryz.prog w = .ok (.slice (some ⟨w.heap.size, 0, none⟩) n n) (w.alloc (.cells (madeCells #[.int .u64 0] n) 52)) := by
  obtain ⟨i, hi, hz, hsize, hby⟩ := info_parts info52
  have h := run_make (P := Tryz.prog) w 81 52 i _ Tryz.underlying81 hi hz .i64 .i64 n n (by omega) (by omega) (by rw [hby]; omega) (by omega)
  rw [hsize, cells52] at h
  simpa using h
theorem made_list (n : Nat) : (madeCells #[Value.int .u64 0] n).toList = wds (List.replicate n 0) := by
  apply List.ext_getElem
  · simp [madeCells, wds]
  · intro k h1 h2
    simp [madeCells, wds, Nat.mod_one]
/-- the words, when the first k of ws are in a row of n -/
def wk (n : Nat) (ws : List Int) (k : Nat) : List Int := ws.take k ++ List.replicate (n - k) 0
theorem wk_zero (n : Nat) (ws : List Int) : wk n ws 0 = List.replicate n 0 := by simp [wk]
theorem wk_len {n k : Nat} {ws : List Int} (h1 : k ≤ ws.length) (h2 : ws.length ≤ n) : (wk n ws k).length = n := by simp [wk]; omega
theorem wk_succ {n k : Nat} {ws : List Int} (h1 : k < ws.length) (h2 : ws.length ≤ n) : (wk n ws k).set k ws[k] = wk n ws (k + 1) := by
  apply List.ext_getElem?
  intro i
  simp only [wk, List.getElem?_set, List.length_append, List.length_take, List.length_replicate, List.getElem?_append, List.getElem?_take, List.getElem?_replicate]
  repeat' split
  all_goals first | rfl | omega | skip
  all_goals (subst_vars; simp_all)
  all_goals first | rfl | omega | skip
set_option maxRecDepth 100000 in
set_option maxHeartbeats 6400000 in
/-- n cells, their first words -/
theorem cellsNew (w : World) (A : Option Addr) (c n : Nat) (ws : List Int) (hr : RK .u64 w w.heap.size A ws) (h0 : 0 < n) (hle : ws.length ≤ n) (hl : n ≤ 65536) :
    Calls Tryz.prog 18 #[.int .i64 n, .slice A ws.length c] w fun e w' => ∃ cb g, e = .returned (.tuple #[.pointer (some ⟨cb, 0, none⟩), .int .i64 0]) ∧ CelR w' w.heap.size cb g (wk n ws ws.length) ∧ Below w.heap.size w w' := by
  have hmk := mk81 w n hl
  have HR := Lib.hid hr
  have i1 : ¬ (n : Int) < 1 := by omega
  have i2 : ¬ (65536 : Int) < (n : Int) := by omega
  have i3 : ¬ (n : Int) < (ws.length : Int) := by omega
  clear hr
  go_enter Tryz.func18, Tryz.ntmps18
  go_wp2
  obtain ⟨w1, hw1⟩ : ∃ w1, w1 = (w.alloc (.cells (madeCells #[.int .u64 0] n) 52)).alloc (.cells #[.slice (some ⟨w.heap.size, 0, none⟩) n n] 83) := ⟨_, rfl⟩
  rw [← hw1]
  have hb1 : Below w.heap.size w w1 := by rw [hw1]; exact ((Below.refl _ w).alloc (Nat.le_refl _) _).alloc (by simp) _
  have hg1 : w1.heap[w.heap.size]? = some (.cells (madeCells #[.int .u64 0] n) 52 (0, 0)) := by rw [hw1]; exact (Go.heap_alloc_old _ _ (by simp)).trans (heap_at _ _ _ rfl)
  have hc1 : w1.heap[w.heap.size + 1]? = some (.cells #[.slice (some ⟨w.heap.size, 0, none⟩) n n] 83 (0, 0)) := by rw [hw1]; exact heap_at _ _ _ (by simp)
  have hcel : CelR w1 w.heap.size (w.heap.size + 1) w.heap.size (wk n ws 0) := by
    have hlen := wk_len (Nat.zero_le ws.length) hle
    refine ⟨?_, ?_, by omega⟩
    · rw [hlen]
      refine Blk.of_heap hc1 (by omega) rfl fun i hi => ?_
      have e0 : i = 0 := by omega
      subst e0
      rfl
    · rw [hlen]
      refine row_of_heap hg1 (Nat.le_refl _) (by simp [madeCells]) ?_ (by simp [maxLen]; omega)
      rw [made_list, wk_zero]
  have HCEL := Lib.hid hcel
  have HB1 := Lib.hid hb1
  obtain ⟨g0, hg0⟩ : ∃ g0, g0 = w.heap.size := ⟨_, rfl⟩
  clear hcel hb1 hg1 hc1 hw1 hmk i1 i2 i3
  rw [← hg0] at HCEL HB1 HR ⊢
  have HG := Lib.hid hg0
  clear hg0
  go_loopw [27] (fun i wr => ∃ k : Nat, k ≤ ws.length ∧ i = .int .i64 k ∧ Hid (CelR wr g0 (g0 + 1) g0 (wk n ws k)) ∧ Hid (Below g0 w wr)) (fun i _ => ws.length - (intOf i).toNat)
  case atStart => exact ⟨0, Nat.zero_le _, rfl, HCEL, HB1⟩
  case round =>
    obtain ⟨k, hk, rfl, HC, HB⟩ := hrel
    have hwk := wk_len hk hle
    have c0 := HC.out.c0
    rw [hwk] at c0
    by_cases hlt : k < ws.length
    · obtain ⟨ab, ao, x, rfl, _, HX, cx⟩ := HR.out.at_ HB.out hlt
      have hkx : (wk n ws k)[k]? = some (wk n ws k)[k] := by simp
      have HS := Lib.hid (u64Store (y := x) _ (HC.out.at_ hkx).1 (HC.out.at_ hkx).2)
      have i1 : (0 : Int) ≤ (k : Int) := by omega
      have i2 : (k : Int) < (ws.length : Int) := by omega
      have i4 : (k : Int) < (n : Int) := by omega
      clear hkx hwk
      go_wp2_with (go_at_call 33; refine halt_ ?_)
      refine Halt_.go ?_
      refine HS.out.mono ?_
      rintro e w' ⟨rfl, rfl⟩
      have hset : (wk n ws k).set k x = wk n ws (k + 1) := by
        have := wk_succ hlt hle
        have hx := HX.out
        rw [List.getElem?_eq_getElem hlt] at hx
        injection hx with hx
        rw [← hx, this]
      have hc' := HC.out.set k x
      rw [hset] at hc'
      have HC' := Lib.hid hc'
      have HB' := Lib.hid (HB.out.setCell (p := ⟨g0, k, none⟩) (Nat.le_refl g0) (.int .u64 x))
      clear hset hc' HC HB HS
      go_wp2
      go_roundw
      case rel => exact ⟨k + 1, by omega, by go_num, HC', HB'⟩
      case measure => simp [intOf]; omega
    · go_wp2
      go_ret2
      have e : k = ws.length := by omega
      subst e
      rw [← HG.out]
      exact ⟨_, _, rfl, HC.out, HB.out⟩
end Go.Proofs.YtomcobcmjocapaaGreatDoor
