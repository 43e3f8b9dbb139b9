/- FreeNested, walked. -/
import Derived.Test.YtomcobcmjocapaaGreatDoorP0
set_option linter.unusedSimpArgs false
namespace Go.Proofs.YtomcobcmjocapaaGreatDoor
open Go.RowKit Go.MuLone
set_option maxRecDepth 100000 in
set_option maxHeartbeats 12800000 in
theorem free_main (w : World) (A B : Option Addr) (c d xa : Nat) (first : List Int) (gets : List Nat) (xw : Int) (more : Bool) (xp xh : Int) (hd : Deb w) (h1 : 1 < w.heap.size)
    (rf : RK .u64 w w.heap.size A first) (rg : RK .u64 w w.heap.size B (gets.map fun (n : Nat) => (n : Int))) (hn : 0 < first.length ∧ first.length ≤ 20) (hg : gets.length ≤ 20) :
    Calls Tryz.prog 3 #[.slice A first.length c, .agg #[.slice B gets.length d, .int .u64 xa, .int .u64 xw, .bool more, .int .u64 xp, .int .i64 xh]] w fun e w' => e = .returned (.bool true) ∧ Below w.heap.size w w' := by
  obtain ⟨n, hnn⟩ : ∃ n, n = first.length := ⟨_, rfl⟩
  obtain ⟨H, hH⟩ : ∃ H, H = w.heap.size := ⟨_, rfl⟩
  obtain ⟨w1, hw1⟩ : ∃ w1, w1 = ((w.alloc (.cells #[.slice A n c] 22)).alloc (.cells #[.slice B gets.length d, .int .u64 xa, .int .u64 xw, .bool more, .int .u64 xp, .int .i64 xh] 25)).alloc (.cells #[.int .u64 n] 23) := ⟨_, rfl⟩
  have hb1 : Below w.heap.size w w1 := by rw [hw1]; exact (((Below.refl _ w).alloc (Nat.le_refl _) _).alloc (by simp) _).alloc (by simp; omega) _
  have hs1 : w1.heap.size = H + 3 := by rw [hw1, hH]; simp
  have k0 : w1.heap[H]? = some (.cells #[.slice A n c] 22 (0, 0)) := by rw [hw1]; exact (Go.heap_alloc_old _ _ (by simp; omega)).trans ((Go.heap_alloc_old _ _ (by simp; omega)).trans (heap_at _ _ _ hH.symm))
  have k1 : w1.heap[H + 1]? = some (.cells #[.slice B gets.length d, .int .u64 xa, .int .u64 xw, .bool more, .int .u64 xp, .int .i64 xh] 25 (0, 0)) := by rw [hw1]; exact (Go.heap_alloc_old _ _ (by simp; omega)).trans (heap_at _ _ _ (by simp [hH]))
  have k2 : w1.heap[H + 2]? = some (.cells #[.int .u64 n] 23 (0, 0)) := by rw [hw1]; exact heap_at _ _ _ (by simp [hH])
  rw [← hH] at rf rg h1
  have rf1 := rf.below (hb1.mono (by omega))
  have rg1 := rg.below (hb1.mono (by omega))
  have HNW := Lib.hid (freeNew w1 A c n first (rf1.more (by omega)) (by omega) (by omega) (by omega))
  rw [← hnn] at HNW
  have hwk := wk_all first
  rw [← hnn] at hwk hn ⊢
  rw [hwk] at HNW
  have hb1' := hb1
  rw [← hH] at hb1'
  have HB1 := Lib.hid hb1'
  have HW1 := Lib.hid hw1
  have HD := Lib.hid hd
  have HK := Lib.hid (And.intro k0 (And.intro k1 k2))
  have HS1 := Lib.hid hs1
  have HRF := Lib.hid rf1
  have HRG := Lib.hid rg1
  have HNN := Lib.hid hnn
  have HHH := Lib.hid hH
  have b0 : ((n : Int) == 0) = false := by rw [beq_eq_false_iff_ne]; omega
  have i0 : ¬ (n : Int) = 0 := by omega
  have i1 : ¬ (20 : Int) < (n : Int) := by omega
  have i2 : ¬ (20 : Int) < (gets.length : Int) := by omega
  have i3 : IntKind.u64.wrap (n : Int) = (n : Int) := by simp [IntKind.wrap_u64]; omega
  clear hb1 hb1' hs1 k0 k1 k2 rf rg rf1 rg1 hwk hw1 hd hnn
  go_enter Tryz.func3, Tryz.ntmps3
  rw [← hH]
  clear hH
  go_wp2_with (go_at_call 5; refine halt_ ?_)
  refine Halt_.go ?_
  rw [← HW1.out, ← HHH.out, show H + 1 + 1 = H + 2 from rfl]
  refine HNW.out.mono ?_
  rintro e w2 ⟨m, cb, g, sc, ch, rfl, hm2, hb2⟩
  rw [HS1.out] at hm2 hb2
  obtain ⟨q0, q1, q2⟩ := HK.out
  have hs2 : H + 3 ≤ w2.heap.size := by have := hb2.size; have := HS1.out; omega
  have x0 : w2.cell? ⟨H, 0, none⟩ = some (.slice A n c) := cell_of_row w2 _ 0 _ _ _ ((hb2.block H (by omega)).trans q0)
  have hx : w2.heap[H + 1]? = some (.cells #[.slice B gets.length d, .int .u64 xa, .int .u64 xw, .bool more, .int .u64 xp, .int .i64 xh] 25 (0, 0)) := (hb2.block (H + 1) (by omega)).trans q1
  have y0 : w2.cell? ⟨H + 1, 0, none⟩ = some (.slice B gets.length d) := cell_of_row w2 _ 0 _ _ _ hx
  have y1 : w2.cell? ⟨H + 1, 1, none⟩ = some (.int .u64 xa) := cell_of_row w2 _ 1 _ _ _ hx
  have z0 : w2.cell? ⟨H + 2, 0, none⟩ = some (.int .u64 n) := cell_of_row w2 _ 0 _ _ _ ((hb2.block (H + 2) (by omega)).trans q2)
  obtain ⟨K, hK⟩ : ∃ K, K = w2.heap.size := ⟨_, rfl⟩
  obtain ⟨a, ha⟩ : ∃ a, a = xa % n := ⟨_, rfl⟩
  have han : a < n := by rw [ha]; exact Nat.mod_lt _ hn.1
  have i4 : Int.tmod (xa : Int) (n : Int) = (a : Int) := by rw [ha]; rfl
  have i5 : (xa : Int) % (n : Int) = (a : Int) := by rw [ha]; rfl
  have HM2 := Lib.hid hm2
  have HB2 := Lib.hid hb2
  have HX2 := Lib.hid hx
  have HKK := Lib.hid hK
  have HA := Lib.hid ha
  have y1a : (w2.alloc (.cells #[.pointer (some ⟨m, 0, none⟩)] 27)).cell? ⟨H + 1, 1, none⟩ = some (.int .u64 xa) := cell_alloc y1
  have z0a : (w2.alloc (.cells #[.pointer (some ⟨m, 0, none⟩)] 27)).cell? ⟨H + 2, 0, none⟩ = some (.int .u64 n) := cell_alloc z0
  have X0 := Lib.hid x0
  have Z0 := Lib.hid z0
  clear hm2 hb2 hx hK ha q0 q1 q2 HNW y1 x0 y0 z0
  go_wp2
  obtain ⟨w3, hw3⟩ : ∃ w3, w3 = ((w2.alloc (.cells #[.pointer (some ⟨m, 0, none⟩)] 27)).alloc (.cells #[.int .u64 a] 23)).alloc (.cells #[.bool false] 4) := ⟨_, rfl⟩
  rw [← hw3, ← HKK.out, show K + 1 + 1 = K + 2 from rfl]
  obtain ⟨X, hX⟩ : ∃ X : Bool → NX, X = fun g => ⟨H, K, m, A, B, c, d, first, gets, xa, xw, xp, xh, more, a, 0, g, .nilFunc⟩ := ⟨_, rfl⟩
  have hb23 : Below w2.heap.size w2 w3 := by rw [hw3]; exact (((Below.refl _ w2).alloc (Nat.le_refl _) _).alloc (by simp) _).alloc (by simp; omega) _
  have hp3 : EnvP w3 (X false) := by
    have hK := HKK.out
    have hbl : ∀ k, k < H + 3 → w3.heap[k]? = w1.heap[k]? := fun k hk => (hb23.block k (by omega)).trans (HB2.out.block k hk)
    have r : ∀ p : Addr, p.block < H → w3.cell? p = w1.cell? p := fun p hp => World.cell?_of_block (hbl _ (by omega))
    have u0 : w3.heap[K]? = some (.cells #[.pointer (some ⟨m, 0, none⟩)] 27 (0, 0)) := by rw [hw3]; exact (Go.heap_alloc_old _ _ (by simp; omega)).trans ((Go.heap_alloc_old _ _ (by simp; omega)).trans (heap_at _ _ _ hK.symm))
    have u1 : w3.heap[K + 1]? = some (.cells #[.int .u64 a] 23 (0, 0)) := by rw [hw3]; exact (Go.heap_alloc_old _ _ (by simp; omega)).trans (heap_at _ _ _ (by simp [hK]))
    have u2 : w3.heap[K + 2]? = some (.cells #[.bool false] 4 (0, 0)) := by rw [hw3]; exact heap_at _ _ _ (by simp [hK])
    rw [hX]
    refine ⟨?_, ?_, ?_, cell_of_row w3 _ 0 _ _ _ u0, cell_of_row w3 _ 0 _ _ _ u1, ⟨cell_of_row w3 _ 0 _ _ _ u2, by simp [World.frozen?, u2]⟩, HRF.out.keep r, HRG.out.keep r, by show H + 3 ≤ K; omega, by show w3.heap.size = K + 3; rw [hw3, hK]; simp⟩
    · show w3.cell? ⟨H, 0, none⟩ = some (.slice A first.length c)
      rw [← HNN.out]
      exact (hb23.cell (p := ⟨H, 0, none⟩) (show H < w2.heap.size by omega)).trans X0.out
    · intro i hi
      have hx := (hb23.block (H + 1) (by omega)).trans HX2.out
      have : i = 0 ∨ i = 1 ∨ i = 2 ∨ i = 3 ∨ i = 4 ∨ i = 5 := by omega
      rcases this with rfl | rfl | rfl | rfl | rfl | rfl
      all_goals exact cell_of_row w3 _ _ _ _ _ hx
    · show w3.cell? ⟨H + 2, 0, none⟩ = some (.int .u64 first.length)
      rw [← HNN.out]
      exact (hb23.cell (p := ⟨H + 2, 0, none⟩) (show H + 2 < w2.heap.size by omega)).trans Z0.out
  have HP3 := Lib.hid hp3
  have HM3 := Lib.hid (HM2.out.ex (Ex.of_below hb23) (S := fun _ => False) id id id id id)
  have HB3 := Lib.hid (HB1.out.trans ((HB2.out.trans (hb23.mono hs2)).mono (by omega)))
  have HXX := Lib.hid hX
  have HLI : Hid (Lies K m cb g sc ∧ ch < K) := by
    have := HM2.out.blk.lt; have := HM2.out.cel.lt; have := HM2.out.lch; have := HKK.out
    exact ⟨⟨by omega, by omega, by omega, by omega⟩, by omega⟩
  have hKK : H + 3 ≤ K := by rw [HKK.out]; exact hs2
  clear hb23 hp3 hX hw3 y1a z0a X0 Z0 HM2 HB2 HX2 HK HS1 HRF HRG HW1 HB1 hs2
  go_loopw [10] (fun i wr => ∃ k : Nat, k ≤ gets.length ∧ i = .int .i64 k ∧ Hid (EnvP wr (X (chgB first gets a xw k))) ∧ Hid (MemR wr (H + 3) m cb g sc ch first 0 0 0 false) ∧ Hid (Below H w wr)) (fun i _ => gets.length - (intOf i).toNat)
  case atStart => exact ⟨0, Nat.zero_le _, rfl, HP3, HM3, HB3⟩
  case round =>
    obtain ⟨k, hk, rfl, HPr, HMr, HBr⟩ := hrel
    clear HP3 HM3 HB3
    obtain ⟨cg, hcg⟩ : ∃ cg, cg = chgB first gets a xw k := ⟨_, rfl⟩
    rw [← hcg] at HPr
    have hp := HPr.out
    rw [HXX.out] at hp
    have x0 : wr.cell? ⟨H + 1, 0, none⟩ = some (.slice B gets.length d) := hp.x 0 (by omega)
    by_cases hlt : k < gets.length
    · have s0 : wr.cell? ⟨H + 2, 0, none⟩ = some (.int .u64 n) := by rw [HNN.out]; exact hp.s
      have f0 : wr.cell? ⟨H, 0, none⟩ = some (.slice A n c) := by rw [HNN.out]; exact hp.f
      have a0 : wr.cell? ⟨K + 1, 0, none⟩ = some (.int .u64 a) := hp.a
      have x2 : wr.cell? ⟨H + 1, 2, none⟩ = some (.int .u64 xw) := hp.x 2 (by omega)
      obtain ⟨g0, z0⟩ : wr.cell? ⟨K + 2, 0, none⟩ = some (.bool cg) ∧ wr.frozen? ⟨K + 2, 0, none⟩ = false := hp.g
      obtain ⟨gb, go, gx, hBe, hgb, HGX, cgx⟩ := (show RK .u64 wr H B (gets.map fun (n : Nat) => (n : Int)) from hp.rg).at_ (Below.refl _ wr) (show k < (gets.map fun (n : Nat) => (n : Int)).length by simpa using hlt)
      obtain ⟨y, hy⟩ : ∃ y : Nat, gx = (y : Int) ∧ gets[k]? = some y := by
        have h := HGX.out
        rw [List.getElem?_map, List.getElem?_eq_getElem hlt] at h
        injection h with h
        exact ⟨gets[k], h.symm, List.getElem?_eq_getElem hlt⟩
      obtain ⟨rfl, hy⟩ := hy
      obtain ⟨fb, fo, v, hAe, hfb, HV, cv⟩ := (show RK .u64 wr H A first from hp.rf).at_ (Below.refl _ wr) (show a < first.length by rw [← HNN.out]; exact han)
      have hj : y % n < n := Nat.mod_lt _ hn.1
      obtain ⟨j, hjj⟩ : ∃ j, j = y % n := ⟨_, rfl⟩
      rw [← hjj] at hj
      have hsc := chgB_succ (first := first) (a := a) (xw := xw) hy HV.out
      rw [← hcg, ← HNN.out, ← hjj] at hsc
      rw [hBe] at x0
      rw [hAe] at f0
      have n0 : ¬ n = 0 := by omega
      have j1 : (0 : Int) ≤ (k : Int) := by omega
      have j2 : (k : Int) < (gets.length : Int) := by omega
      have j3 : (0 : Int) ≤ (a : Int) := by omega
      have j4 : (a : Int) < (n : Int) := by omega
      have j6 : Int.tmod (y : Int) (n : Int) = (j : Int) := by rw [hjj]; rfl
      have j7 : (y : Int) % (n : Int) = (j : Int) := by rw [hjj]; rfl
      have HSC := Lib.hid hsc
      have HAB := Lib.hid (And.intro hBe hAe)
      clear hsc hcg hy hjj hBe hAe hgb hfb HGX HV hp
      cases cg
      · by_cases hja : j = a
        · have j8 : ((j : Int) == (a : Int)) = true := by rw [beq_iff_eq]; omega
          have HJA := Lib.hid hja
          have hval : chgB first gets a xw (k + 1) = (v != xw) := by rw [HSC.out]; simp [hja]
          have HVAL := Lib.hid hval
          clear hja hval
          go_wp2
          refine wp_region_C (S := fun W => W.cell? ⟨K + 2, 0, none⟩ = some (.bool false) ∧ W.frozen? ⟨K + 2, 0, none⟩ = false ∧ W.cell? ⟨H + 1, 0, none⟩ = some (.slice (some ⟨gb, go, none⟩) gets.length d) ∧ W.cell? ⟨gb, go + k, none⟩ = some (.int .u64 y) ∧ W.cell? ⟨H + 2, 0, none⟩ = some (.int .u64 n) ∧ W.cell? ⟨K + 1, 0, none⟩ = some (.int .u64 a) ∧ W.cell? ⟨H, 0, none⟩ = some (.slice (some ⟨fb, fo, none⟩) n c) ∧ W.cell? ⟨fb, fo + a, none⟩ = some (.int .u64 v) ∧ W.cell? ⟨H + 1, 2, none⟩ = some (.int .u64 xw)) 21 (by kernel_rfl) ⟨g0, z0, x0, cgx, s0, a0, f0, cv, x2⟩ (fun hHeld => ?_)
          refine wpAnyC_take [21] (i := 0) (oi := _) (v := ?v12a_0) rfl (by kernel_rfl) (by kernel_rfl) (by kernel_rfl) (by kernel_rfl) (fun _ _ _ h => h) (Or.inl ⟨by rfl, ?hy12a_0⟩) (by assumption) ?rest12a_0
          case hy12a_0 => ((intro w hSw; (try dsimp only at hSw); go_simp); (try with_reducible rfl))
          (try simp only [Act.put, Array.getInternal_eq_getElem, List.getElem_toArray, List.getElem_cons_zero, List.getElem_cons_succ, List.setIfInBounds_toArray, List.set_cons_zero, List.set_cons_succ])
          refine wpAnyC_take [21] (i := 1) (oi := _) (v := ?v12a_1) rfl (by kernel_rfl) (by kernel_rfl) (by kernel_rfl) (by kernel_rfl) (fun _ _ _ h => h) (Or.inl ⟨by rfl, ?hy12a_1⟩) (by assumption) ?rest12a_1
          case hy12a_1 => ((intro w hSw; (try dsimp only at hSw); go_simp); (try with_reducible rfl))
          (try simp only [Act.put, Array.getInternal_eq_getElem, List.getElem_toArray, List.getElem_cons_zero, List.getElem_cons_succ, List.setIfInBounds_toArray, List.set_cons_zero, List.set_cons_succ])
          refine wpAnyC_take [21] (i := 2) (oi := _) (v := ?v12a_2) rfl (by kernel_rfl) (by kernel_rfl) (by kernel_rfl) (by kernel_rfl) (fun _ _ _ h => h) (Or.inl ⟨by rfl, ?hy12a_2⟩) (by assumption) ?rest12a_2
          case hy12a_2 => ((intro w hSw; (try dsimp only at hSw); go_simp); (try with_reducible rfl))
          (try simp only [Act.put, Array.getInternal_eq_getElem, List.getElem_toArray, List.getElem_cons_zero, List.getElem_cons_succ, List.setIfInBounds_toArray, List.set_cons_zero, List.set_cons_succ])
          refine wpAnyC_take [21] (i := 3) (oi := _) (v := ?v12a_3) rfl (by kernel_rfl) (by kernel_rfl) (by kernel_rfl) (by kernel_rfl) (fun _ _ _ h => h) (Or.inl ⟨by rfl, ?hy12a_3⟩) (by assumption) ?rest12a_3
          case hy12a_3 => ((intro w hSw; (try dsimp only at hSw); go_simp); (try with_reducible rfl))
          (try simp only [Act.put, Array.getInternal_eq_getElem, List.getElem_toArray, List.getElem_cons_zero, List.getElem_cons_succ, List.setIfInBounds_toArray, List.set_cons_zero, List.set_cons_succ])
          refine wpAnyC_take [21] (i := 4) (oi := _) (v := ?v12a_4) rfl (by kernel_rfl) (by kernel_rfl) (by kernel_rfl) (by kernel_rfl) (fun _ _ _ h => h) (Or.inl ⟨by rfl, ?hy12a_4⟩) (by assumption) ?rest12a_4
          case hy12a_4 => ((intro w hSw; (try dsimp only at hSw); go_simp); (try with_reducible rfl))
          (try simp only [Act.put, Array.getInternal_eq_getElem, List.getElem_toArray, List.getElem_cons_zero, List.getElem_cons_succ, List.setIfInBounds_toArray, List.set_cons_zero, List.set_cons_succ])
          refine wpAnyC_take [21] (i := 5) (oi := _) (v := ?v12a_5) rfl (by kernel_rfl) (by kernel_rfl) (by kernel_rfl) (by kernel_rfl) (fun _ _ _ h => h) (Or.inl ⟨by rfl, ?hy12a_5⟩) (by assumption) ?rest12a_5
          case hy12a_5 => ((intro w hSw; (try dsimp only at hSw); go_simp); (try with_reducible rfl))
          (try simp only [Act.put, Array.getInternal_eq_getElem, List.getElem_toArray, List.getElem_cons_zero, List.getElem_cons_succ, List.setIfInBounds_toArray, List.set_cons_zero, List.set_cons_succ])
          refine wpAnyC_take [21] (i := 6) (oi := _) (v := ?v12a_6) rfl (by kernel_rfl) (by kernel_rfl) (by kernel_rfl) (by kernel_rfl) (fun _ _ _ h => h) (Or.inl ⟨by rfl, ?hy12a_6⟩) (by assumption) ?rest12a_6
          case hy12a_6 => ((intro w hSw; (try dsimp only at hSw); go_simp); (try with_reducible rfl))
          (try simp only [Act.put, Array.getInternal_eq_getElem, List.getElem_toArray, List.getElem_cons_zero, List.getElem_cons_succ, List.setIfInBounds_toArray, List.set_cons_zero, List.set_cons_succ])
          refine wpAnyC_take [21] (i := 7) (oi := _) (v := ?v12a_7) rfl (by kernel_rfl) (by kernel_rfl) (by kernel_rfl) (by kernel_rfl) (fun _ _ _ h => h) (Or.inl ⟨by rfl, ?hy12a_7⟩) (by assumption) ?rest12a_7
          case hy12a_7 => ((intro w hSw; (try dsimp only at hSw); go_simp); (try with_reducible rfl))
          (try simp only [Act.put, Array.getInternal_eq_getElem, List.getElem_toArray, List.getElem_cons_zero, List.getElem_cons_succ, List.setIfInBounds_toArray, List.set_cons_zero, List.set_cons_succ])
          refine wpAnyC_take [21] (i := 8) (oi := _) (v := ?v12a_8) rfl (by kernel_rfl) (by kernel_rfl) (by kernel_rfl) (by kernel_rfl) (fun _ _ _ h => h) (Or.inl ⟨by rfl, ?hy12a_8⟩) (by assumption) ?rest12a_8
          case hy12a_8 => ((intro w hSw; (try dsimp only at hSw); go_simp); (try with_reducible rfl))
          (try simp only [Act.put, Array.getInternal_eq_getElem, List.getElem_toArray, List.getElem_cons_zero, List.getElem_cons_succ, List.setIfInBounds_toArray, List.set_cons_zero, List.set_cons_succ])
          refine wpAnyC_take [21] (i := 9) (oi := _) (v := ?v12a_9) rfl (by kernel_rfl) (by kernel_rfl) (by kernel_rfl) (by kernel_rfl) (fun _ _ _ h => h) (Or.inl ⟨by rfl, ?hy12a_9⟩) (by assumption) ?rest12a_9
          case hy12a_9 => ((intro w hSw; (try dsimp only at hSw); go_simp); (try with_reducible rfl))
          (try simp only [Act.put, Array.getInternal_eq_getElem, List.getElem_toArray, List.getElem_cons_zero, List.getElem_cons_succ, List.setIfInBounds_toArray, List.set_cons_zero, List.set_cons_succ])
          refine wpAnyC_take [21] (i := 10) (oi := _) (v := ?v12a_10) rfl (by kernel_rfl) (by kernel_rfl) (by kernel_rfl) (by kernel_rfl) (fun _ _ _ h => h) (Or.inl ⟨by rfl, ?hy12a_10⟩) (by assumption) ?rest12a_10
          case hy12a_10 => ((intro w hSw; (try dsimp only at hSw); go_simp); (try with_reducible rfl))
          (try simp only [Act.put, Array.getInternal_eq_getElem, List.getElem_toArray, List.getElem_cons_zero, List.getElem_cons_succ, List.setIfInBounds_toArray, List.set_cons_zero, List.set_cons_succ])
          refine wpAnyC_take [21] (i := 11) (oi := _) (v := ?v12a_11) rfl (by kernel_rfl) (by kernel_rfl) (by kernel_rfl) (by kernel_rfl) (fun _ _ _ h => h) (Or.inl ⟨by rfl, ?hy12a_11⟩) (by assumption) ?rest12a_11
          case hy12a_11 => ((intro w hSw; (try dsimp only at hSw); go_simp); (try with_reducible rfl))
          (try simp only [Act.put, Array.getInternal_eq_getElem, List.getElem_toArray, List.getElem_cons_zero, List.getElem_cons_succ, List.setIfInBounds_toArray, List.set_cons_zero, List.set_cons_succ])
          refine wpAnyC_take [21] (i := 12) (oi := _) (v := ?v12a_12) rfl (by kernel_rfl) (by kernel_rfl) (by kernel_rfl) (by kernel_rfl) (fun _ _ _ h => h) (Or.inl ⟨by rfl, ?hy12a_12⟩) (by assumption) ?rest12a_12
          case hy12a_12 => ((intro w hSw; (try dsimp only at hSw); go_simp); (try with_reducible rfl))
          (try simp only [Act.put, Array.getInternal_eq_getElem, List.getElem_toArray, List.getElem_cons_zero, List.getElem_cons_succ, List.setIfInBounds_toArray, List.set_cons_zero, List.set_cons_succ])
          refine wpAnyC_take [21] (i := 13) (oi := _) (v := ?v12a_13) rfl (by kernel_rfl) (by kernel_rfl) (by kernel_rfl) (by kernel_rfl) (fun _ _ _ h => h) (Or.inl ⟨by rfl, ?hy12a_13⟩) (by assumption) ?rest12a_13
          case hy12a_13 => ((intro w hSw; (try dsimp only at hSw); go_simp); (try with_reducible rfl))
          (try simp only [Act.put, Array.getInternal_eq_getElem, List.getElem_toArray, List.getElem_cons_zero, List.getElem_cons_succ, List.setIfInBounds_toArray, List.set_cons_zero, List.set_cons_succ])
          refine wpAnyC_take [21] (i := 14) (oi := _) (v := ?v12a_14) rfl (by kernel_rfl) (by kernel_rfl) (by kernel_rfl) (by kernel_rfl) (fun _ _ _ h => h) (Or.inl ⟨by rfl, ?hy12a_14⟩) (by assumption) ?rest12a_14
          case hy12a_14 => ((intro w hSw; (try dsimp only at hSw); go_simp); (try with_reducible rfl))
          (try simp only [Act.put, Array.getInternal_eq_getElem, List.getElem_toArray, List.getElem_cons_zero, List.getElem_cons_succ, List.setIfInBounds_toArray, List.set_cons_zero, List.set_cons_succ])
          refine wpAnyC_take [21] (i := 15) (oi := _) (v := ?v12a_15) rfl (by kernel_rfl) (by kernel_rfl) (by kernel_rfl) (by kernel_rfl) (fun _ _ _ h => h) (Or.inl ⟨by rfl, ?hy12a_15⟩) (by assumption) ?rest12a_15
          case hy12a_15 => ((intro w hSw; (try dsimp only at hSw); go_simp); (try with_reducible rfl))
          (try simp only [Act.put, Array.getInternal_eq_getElem, List.getElem_toArray, List.getElem_cons_zero, List.getElem_cons_succ, List.setIfInBounds_toArray, List.set_cons_zero, List.set_cons_succ])
          refine wpAnyC_take [21] (i := 16) (oi := _) (v := ?v12a_16) rfl (by kernel_rfl) (by kernel_rfl) (by kernel_rfl) (by kernel_rfl) (fun _ _ _ h => h) (Or.inl ⟨by rfl, ?hy12a_16⟩) (by assumption) ?rest12a_16
          case hy12a_16 => ((intro w hSw; (try dsimp only at hSw); go_simp); (try with_reducible rfl))
          (try simp only [Act.put, Array.getInternal_eq_getElem, List.getElem_toArray, List.getElem_cons_zero, List.getElem_cons_succ, List.setIfInBounds_toArray, List.set_cons_zero, List.set_cons_succ])
          refine wpAnyC_take [21] (i := 17) (oi := _) (v := ?v12a_17) rfl (by kernel_rfl) (by kernel_rfl) (by kernel_rfl) (by kernel_rfl) (fun _ _ _ h => h) (Or.inl ⟨by rfl, ?hy12a_17⟩) (by assumption) ?rest12a_17
          case hy12a_17 => ((intro w hSw; (try dsimp only at hSw); go_simp); (try with_reducible rfl))
          (try simp only [Act.put, Array.getInternal_eq_getElem, List.getElem_toArray, List.getElem_cons_zero, List.getElem_cons_succ, List.setIfInBounds_toArray, List.set_cons_zero, List.set_cons_succ])
          refine wpAnyC_take [21] (i := 18) (oi := _) (v := ?v12a_18) rfl (by kernel_rfl) (by kernel_rfl) (by kernel_rfl) (by kernel_rfl) (fun _ _ _ h => h) (Or.inl ⟨by rfl, ?hy12a_18⟩) (by assumption) ?rest12a_18
          case hy12a_18 => ((intro w hSw; (try dsimp only at hSw); go_simp); (try with_reducible rfl))
          (try simp only [Act.put, Array.getInternal_eq_getElem, List.getElem_toArray, List.getElem_cons_zero, List.getElem_cons_succ, List.setIfInBounds_toArray, List.set_cons_zero, List.set_cons_succ])
          refine wpAnyC_take [21] (i := 19) (oi := _) (v := ?v12a_19) rfl (by kernel_rfl) (by kernel_rfl) (by kernel_rfl) (by kernel_rfl) (fun _ _ _ h => h) (Or.inl ⟨by rfl, ?hy12a_19⟩) (by assumption) ?rest12a_19
          case hy12a_19 => ((intro w hSw; (try dsimp only at hSw); go_simp); (try with_reducible rfl))
          (try simp only [Act.put, Array.getInternal_eq_getElem, List.getElem_toArray, List.getElem_cons_zero, List.getElem_cons_succ, List.setIfInBounds_toArray, List.set_cons_zero, List.set_cons_succ])
          refine wpAnyC_take [21] (i := 20) (oi := _) (v := ?v12a_20) rfl (by kernel_rfl) (by kernel_rfl) (by kernel_rfl) (by kernel_rfl) (fun _ _ _ h => h) (Or.inl ⟨by rfl, ?hy12a_20⟩) (by assumption) ?rest12a_20
          case hy12a_20 => ((intro w hSw; (try dsimp only at hSw); go_simp); (try with_reducible rfl))
          (try simp only [Act.put, Array.getInternal_eq_getElem, List.getElem_toArray, List.getElem_cons_zero, List.getElem_cons_succ, List.setIfInBounds_toArray, List.set_cons_zero, List.set_cons_succ])
          refine wpAnyC_last (o := _) (by kernel_rfl) rfl (fun K hK => ?_)
          go_simp
          refine hK.out _ _ ?_
          clear hK K
          refine wpAnyC_done (by kernel_rfl) ?_ _
          clear s0 a0 x2 x0 cgx f0 cv
          go_wp2
          have hp2 := EnvP.drewN1 (HPr.out.set (v != xw))
          rw [HXX.out] at hp2
          obtain ⟨⟨l1, l2, l3, l4⟩, l5⟩ := HLI.out
          have hx2 : Ex wr (wr.setCell ⟨K + 2, 0, none⟩ (.bool (v != xw))).drew (fun q => q = K + 2) := ((Ex.refl wr (fun q => q = K + 2)).set ⟨K + 2, 0, none⟩ _ fun _ => rfl).drew
          exact ⟨⟨k + 1, by omega, by simp, by rw [HVAL.out, HXX.out]; exact hp2, HMr.out.ex hx2 (by omega) (by omega) (by omega) (by omega) (by omega), hx2.below HBr.out (fun q hq h => by omega) (by have h1 := HPr.out.sz; rw [HXX.out] at h1; have h2 : wr.heap.size = K + 3 := h1; omega)⟩, by simp [intOf]; omega⟩
        · have j8 : ((j : Int) == (a : Int)) = false := by rw [beq_eq_false_iff_ne]; omega
          have hval : chgB first gets a xw (k + 1) = false := by rw [HSC.out]; simp [hja]
          have HVAL := Lib.hid hval
          clear hja hval
          go_wp2
          refine wp_region_C (S := fun W => W.cell? ⟨K + 2, 0, none⟩ = some (.bool false) ∧ W.frozen? ⟨K + 2, 0, none⟩ = false ∧ W.cell? ⟨H + 1, 0, none⟩ = some (.slice (some ⟨gb, go, none⟩) gets.length d) ∧ W.cell? ⟨gb, go + k, none⟩ = some (.int .u64 y) ∧ W.cell? ⟨H + 2, 0, none⟩ = some (.int .u64 n) ∧ W.cell? ⟨K + 1, 0, none⟩ = some (.int .u64 a) ∧ W.cell? ⟨H, 0, none⟩ = some (.slice (some ⟨fb, fo, none⟩) n c) ∧ W.cell? ⟨fb, fo + a, none⟩ = some (.int .u64 v) ∧ W.cell? ⟨H + 1, 2, none⟩ = some (.int .u64 xw)) 21 (by kernel_rfl) ⟨g0, z0, x0, cgx, s0, a0, f0, cv, x2⟩ (fun hHeld => ?_)
          refine wpAnyC_take [21] (i := 0) (oi := _) (v := ?v12b_0) rfl (by kernel_rfl) (by kernel_rfl) (by kernel_rfl) (by kernel_rfl) (fun _ _ _ h => h) (Or.inl ⟨by rfl, ?hy12b_0⟩) (by assumption) ?rest12b_0
          case hy12b_0 => ((intro w hSw; (try dsimp only at hSw); go_simp); (try with_reducible rfl))
          (try simp only [Act.put, Array.getInternal_eq_getElem, List.getElem_toArray, List.getElem_cons_zero, List.getElem_cons_succ, List.setIfInBounds_toArray, List.set_cons_zero, List.set_cons_succ])
          refine wpAnyC_take [21] (i := 1) (oi := _) (v := ?v12b_1) rfl (by kernel_rfl) (by kernel_rfl) (by kernel_rfl) (by kernel_rfl) (fun _ _ _ h => h) (Or.inl ⟨by rfl, ?hy12b_1⟩) (by assumption) ?rest12b_1
          case hy12b_1 => ((intro w hSw; (try dsimp only at hSw); go_simp); (try with_reducible rfl))
          (try simp only [Act.put, Array.getInternal_eq_getElem, List.getElem_toArray, List.getElem_cons_zero, List.getElem_cons_succ, List.setIfInBounds_toArray, List.set_cons_zero, List.set_cons_succ])
          refine wpAnyC_take [21] (i := 2) (oi := _) (v := ?v12b_2) rfl (by kernel_rfl) (by kernel_rfl) (by kernel_rfl) (by kernel_rfl) (fun _ _ _ h => h) (Or.inl ⟨by rfl, ?hy12b_2⟩) (by assumption) ?rest12b_2
          case hy12b_2 => ((intro w hSw; (try dsimp only at hSw); go_simp); (try with_reducible rfl))
          (try simp only [Act.put, Array.getInternal_eq_getElem, List.getElem_toArray, List.getElem_cons_zero, List.getElem_cons_succ, List.setIfInBounds_toArray, List.set_cons_zero, List.set_cons_succ])
          refine wpAnyC_take [21] (i := 3) (oi := _) (v := ?v12b_3) rfl (by kernel_rfl) (by kernel_rfl) (by kernel_rfl) (by kernel_rfl) (fun _ _ _ h => h) (Or.inl ⟨by rfl, ?hy12b_3⟩) (by assumption) ?rest12b_3
          case hy12b_3 => ((intro w hSw; (try dsimp only at hSw); go_simp); (try with_reducible rfl))
          (try simp only [Act.put, Array.getInternal_eq_getElem, List.getElem_toArray, List.getElem_cons_zero, List.getElem_cons_succ, List.setIfInBounds_toArray, List.set_cons_zero, List.set_cons_succ])
          refine wpAnyC_take [21] (i := 4) (oi := _) (v := ?v12b_4) rfl (by kernel_rfl) (by kernel_rfl) (by kernel_rfl) (by kernel_rfl) (fun _ _ _ h => h) (Or.inl ⟨by rfl, ?hy12b_4⟩) (by assumption) ?rest12b_4
          case hy12b_4 => ((intro w hSw; (try dsimp only at hSw); go_simp); (try with_reducible rfl))
          (try simp only [Act.put, Array.getInternal_eq_getElem, List.getElem_toArray, List.getElem_cons_zero, List.getElem_cons_succ, List.setIfInBounds_toArray, List.set_cons_zero, List.set_cons_succ])
          refine wpAnyC_take [21] (i := 5) (oi := _) (v := ?v12b_5) rfl (by kernel_rfl) (by kernel_rfl) (by kernel_rfl) (by kernel_rfl) (fun _ _ _ h => h) (Or.inl ⟨by rfl, ?hy12b_5⟩) (by assumption) ?rest12b_5
          case hy12b_5 => ((intro w hSw; (try dsimp only at hSw); go_simp); (try with_reducible rfl))
          (try simp only [Act.put, Array.getInternal_eq_getElem, List.getElem_toArray, List.getElem_cons_zero, List.getElem_cons_succ, List.setIfInBounds_toArray, List.set_cons_zero, List.set_cons_succ])
          refine wpAnyC_take [21] (i := 6) (oi := _) (v := ?v12b_6) rfl (by kernel_rfl) (by kernel_rfl) (by kernel_rfl) (by kernel_rfl) (fun _ _ _ h => h) (Or.inl ⟨by rfl, ?hy12b_6⟩) (by assumption) ?rest12b_6
          case hy12b_6 => ((intro w hSw; (try dsimp only at hSw); go_simp); (try with_reducible rfl))
          (try simp only [Act.put, Array.getInternal_eq_getElem, List.getElem_toArray, List.getElem_cons_zero, List.getElem_cons_succ, List.setIfInBounds_toArray, List.set_cons_zero, List.set_cons_succ])
          refine wpAnyC_take [21] (i := 7) (oi := _) (v := ?v12b_7) rfl (by kernel_rfl) (by kernel_rfl) (by kernel_rfl) (by kernel_rfl) (fun _ _ _ h => h) (Or.inl ⟨by rfl, ?hy12b_7⟩) (by assumption) ?rest12b_7
          case hy12b_7 => ((intro w hSw; (try dsimp only at hSw); go_simp); (try with_reducible rfl))
          (try simp only [Act.put, Array.getInternal_eq_getElem, List.getElem_toArray, List.getElem_cons_zero, List.getElem_cons_succ, List.setIfInBounds_toArray, List.set_cons_zero, List.set_cons_succ])
          refine wpAnyC_take [21] (i := 8) (oi := _) (v := ?v12b_8) rfl (by kernel_rfl) (by kernel_rfl) (by kernel_rfl) (by kernel_rfl) (fun _ _ _ h => h) (Or.inl ⟨by rfl, ?hy12b_8⟩) (by assumption) ?rest12b_8
          case hy12b_8 => ((intro w hSw; (try dsimp only at hSw); go_simp); (try with_reducible rfl))
          (try simp only [Act.put, Array.getInternal_eq_getElem, List.getElem_toArray, List.getElem_cons_zero, List.getElem_cons_succ, List.setIfInBounds_toArray, List.set_cons_zero, List.set_cons_succ])
          refine wpAnyC_take [21] (i := 9) (oi := _) (v := ?v12b_9) rfl (by kernel_rfl) (by kernel_rfl) (by kernel_rfl) (by kernel_rfl) (fun _ _ _ h => h) (Or.inl ⟨by rfl, ?hy12b_9⟩) (by assumption) ?rest12b_9
          case hy12b_9 => ((intro w hSw; (try dsimp only at hSw); go_simp); (try with_reducible rfl))
          (try simp only [Act.put, Array.getInternal_eq_getElem, List.getElem_toArray, List.getElem_cons_zero, List.getElem_cons_succ, List.setIfInBounds_toArray, List.set_cons_zero, List.set_cons_succ])
          refine wpAnyC_take [21] (i := 10) (oi := _) (v := ?v12b_10) rfl (by kernel_rfl) (by kernel_rfl) (by kernel_rfl) (by kernel_rfl) (fun _ _ _ h => h) (Or.inl ⟨by rfl, ?hy12b_10⟩) (by assumption) ?rest12b_10
          case hy12b_10 => ((intro w hSw; (try dsimp only at hSw); go_simp); (try with_reducible rfl))
          (try simp only [Act.put, Array.getInternal_eq_getElem, List.getElem_toArray, List.getElem_cons_zero, List.getElem_cons_succ, List.setIfInBounds_toArray, List.set_cons_zero, List.set_cons_succ])
          refine wpAnyC_take [21] (i := 11) (oi := _) (v := ?v12b_11) rfl (by kernel_rfl) (by kernel_rfl) (by kernel_rfl) (by kernel_rfl) (fun _ _ _ h => h) (Or.inl ⟨by rfl, ?hy12b_11⟩) (by assumption) ?rest12b_11
          case hy12b_11 => ((intro w hSw; (try dsimp only at hSw); go_simp); (try with_reducible rfl))
          (try simp only [Act.put, Array.getInternal_eq_getElem, List.getElem_toArray, List.getElem_cons_zero, List.getElem_cons_succ, List.setIfInBounds_toArray, List.set_cons_zero, List.set_cons_succ])
          refine wpAnyC_take [21] (i := 12) (oi := _) (v := undef) rfl (by kernel_rfl) (by kernel_rfl) (by kernel_rfl) (by kernel_rfl) (fun _ _ _ h => h) (Or.inr ⟨by rfl, rfl⟩) (by assumption) ?rest12b_12
          (try simp only [Act.put, Array.getInternal_eq_getElem, List.getElem_toArray, List.getElem_cons_zero, List.getElem_cons_succ, List.setIfInBounds_toArray, List.set_cons_zero, List.set_cons_succ])
          refine wpAnyC_take [21] (i := 13) (oi := _) (v := undef) rfl (by kernel_rfl) (by kernel_rfl) (by kernel_rfl) (by kernel_rfl) (fun _ _ _ h => h) (Or.inr ⟨by rfl, rfl⟩) (by assumption) ?rest12b_13
          (try simp only [Act.put, Array.getInternal_eq_getElem, List.getElem_toArray, List.getElem_cons_zero, List.getElem_cons_succ, List.setIfInBounds_toArray, List.set_cons_zero, List.set_cons_succ])
          refine wpAnyC_take [21] (i := 14) (oi := _) (v := undef) rfl (by kernel_rfl) (by kernel_rfl) (by kernel_rfl) (by kernel_rfl) (fun _ _ _ h => h) (Or.inr ⟨by rfl, rfl⟩) (by assumption) ?rest12b_14
          (try simp only [Act.put, Array.getInternal_eq_getElem, List.getElem_toArray, List.getElem_cons_zero, List.getElem_cons_succ, List.setIfInBounds_toArray, List.set_cons_zero, List.set_cons_succ])
          refine wpAnyC_take [21] (i := 15) (oi := _) (v := undef) rfl (by kernel_rfl) (by kernel_rfl) (by kernel_rfl) (by kernel_rfl) (fun _ _ _ h => h) (Or.inr ⟨by rfl, rfl⟩) (by assumption) ?rest12b_15
          (try simp only [Act.put, Array.getInternal_eq_getElem, List.getElem_toArray, List.getElem_cons_zero, List.getElem_cons_succ, List.setIfInBounds_toArray, List.set_cons_zero, List.set_cons_succ])
          refine wpAnyC_take [21] (i := 16) (oi := _) (v := undef) rfl (by kernel_rfl) (by kernel_rfl) (by kernel_rfl) (by kernel_rfl) (fun _ _ _ h => h) (Or.inr ⟨by rfl, rfl⟩) (by assumption) ?rest12b_16
          (try simp only [Act.put, Array.getInternal_eq_getElem, List.getElem_toArray, List.getElem_cons_zero, List.getElem_cons_succ, List.setIfInBounds_toArray, List.set_cons_zero, List.set_cons_succ])
          refine wpAnyC_take [21] (i := 17) (oi := _) (v := undef) rfl (by kernel_rfl) (by kernel_rfl) (by kernel_rfl) (by kernel_rfl) (fun _ _ _ h => h) (Or.inr ⟨by rfl, rfl⟩) (by assumption) ?rest12b_17
          (try simp only [Act.put, Array.getInternal_eq_getElem, List.getElem_toArray, List.getElem_cons_zero, List.getElem_cons_succ, List.setIfInBounds_toArray, List.set_cons_zero, List.set_cons_succ])
          refine wpAnyC_take [21] (i := 18) (oi := _) (v := undef) rfl (by kernel_rfl) (by kernel_rfl) (by kernel_rfl) (by kernel_rfl) (fun _ _ _ h => h) (Or.inr ⟨by rfl, rfl⟩) (by assumption) ?rest12b_18
          (try simp only [Act.put, Array.getInternal_eq_getElem, List.getElem_toArray, List.getElem_cons_zero, List.getElem_cons_succ, List.setIfInBounds_toArray, List.set_cons_zero, List.set_cons_succ])
          refine wpAnyC_take [21] (i := 19) (oi := _) (v := ?v12b_19) rfl (by kernel_rfl) (by kernel_rfl) (by kernel_rfl) (by kernel_rfl) (fun _ _ _ h => h) (Or.inl ⟨by rfl, ?hy12b_19⟩) (by assumption) ?rest12b_19
          case hy12b_19 => ((intro w hSw; (try dsimp only at hSw); go_simp); (try with_reducible rfl))
          (try simp only [Act.put, Array.getInternal_eq_getElem, List.getElem_toArray, List.getElem_cons_zero, List.getElem_cons_succ, List.setIfInBounds_toArray, List.set_cons_zero, List.set_cons_succ])
          refine wpAnyC_take [21] (i := 20) (oi := _) (v := ?v12b_20) rfl (by kernel_rfl) (by kernel_rfl) (by kernel_rfl) (by kernel_rfl) (fun _ _ _ h => h) (Or.inl ⟨by rfl, ?hy12b_20⟩) (by assumption) ?rest12b_20
          case hy12b_20 => ((intro w hSw; (try dsimp only at hSw); go_simp); (try with_reducible rfl))
          (try simp only [Act.put, Array.getInternal_eq_getElem, List.getElem_toArray, List.getElem_cons_zero, List.getElem_cons_succ, List.setIfInBounds_toArray, List.set_cons_zero, List.set_cons_succ])
          refine wpAnyC_last (o := _) (by kernel_rfl) rfl (fun K hK => ?_)
          go_simp
          refine hK.out _ _ ?_
          clear hK K
          refine wpAnyC_done (by kernel_rfl) ?_ _
          clear s0 a0 x2 x0 cgx f0 cv
          go_wp2
          have hp2 := EnvP.drewN1 (HPr.out.set (false))
          rw [HXX.out] at hp2
          obtain ⟨⟨l1, l2, l3, l4⟩, l5⟩ := HLI.out
          have hx2 : Ex wr (wr.setCell ⟨K + 2, 0, none⟩ (.bool (false))).drew (fun q => q = K + 2) := ((Ex.refl wr (fun q => q = K + 2)).set ⟨K + 2, 0, none⟩ _ fun _ => rfl).drew
          exact ⟨⟨k + 1, by omega, by simp, by rw [HVAL.out, HXX.out]; exact hp2, HMr.out.ex hx2 (by omega) (by omega) (by omega) (by omega) (by omega), hx2.below HBr.out (fun q hq h => by omega) (by have h1 := HPr.out.sz; rw [HXX.out] at h1; have h2 : wr.heap.size = K + 3 := h1; omega)⟩, by simp [intOf]; omega⟩
      · have hval : chgB first gets a xw (k + 1) = true := by rw [HSC.out]; simp
        have HVAL := Lib.hid hval
        clear hval
        go_wp2
        refine wp_region_C (S := fun W => W.cell? ⟨K + 2, 0, none⟩ = some (.bool true) ∧ W.frozen? ⟨K + 2, 0, none⟩ = false ∧ W.cell? ⟨H + 1, 0, none⟩ = some (.slice (some ⟨gb, go, none⟩) gets.length d) ∧ W.cell? ⟨gb, go + k, none⟩ = some (.int .u64 y) ∧ W.cell? ⟨H + 2, 0, none⟩ = some (.int .u64 n) ∧ W.cell? ⟨K + 1, 0, none⟩ = some (.int .u64 a) ∧ W.cell? ⟨H, 0, none⟩ = some (.slice (some ⟨fb, fo, none⟩) n c) ∧ W.cell? ⟨fb, fo + a, none⟩ = some (.int .u64 v) ∧ W.cell? ⟨H + 1, 2, none⟩ = some (.int .u64 xw)) 21 (by kernel_rfl) ⟨g0, z0, x0, cgx, s0, a0, f0, cv, x2⟩ (fun hHeld => ?_)
        refine wpAnyC_take [21] (i := 0) (oi := _) (v := ?v12c_0) rfl (by kernel_rfl) (by kernel_rfl) (by kernel_rfl) (by kernel_rfl) (fun _ _ _ h => h) (Or.inl ⟨by rfl, ?hy12c_0⟩) (by assumption) ?rest12c_0
        case hy12c_0 => ((intro w hSw; (try dsimp only at hSw); go_simp); (try with_reducible rfl))
        (try simp only [Act.put, Array.getInternal_eq_getElem, List.getElem_toArray, List.getElem_cons_zero, List.getElem_cons_succ, List.setIfInBounds_toArray, List.set_cons_zero, List.set_cons_succ])
        refine wpAnyC_take [21] (i := 1) (oi := _) (v := ?v12c_1) rfl (by kernel_rfl) (by kernel_rfl) (by kernel_rfl) (by kernel_rfl) (fun _ _ _ h => h) (Or.inl ⟨by rfl, ?hy12c_1⟩) (by assumption) ?rest12c_1
        case hy12c_1 => ((intro w hSw; (try dsimp only at hSw); go_simp); (try with_reducible rfl))
        (try simp only [Act.put, Array.getInternal_eq_getElem, List.getElem_toArray, List.getElem_cons_zero, List.getElem_cons_succ, List.setIfInBounds_toArray, List.set_cons_zero, List.set_cons_succ])
        refine wpAnyC_take [21] (i := 2) (oi := _) (v := undef) rfl (by kernel_rfl) (by kernel_rfl) (by kernel_rfl) (by kernel_rfl) (fun _ _ _ h => h) (Or.inr ⟨by rfl, rfl⟩) (by assumption) ?rest12c_2
        (try simp only [Act.put, Array.getInternal_eq_getElem, List.getElem_toArray, List.getElem_cons_zero, List.getElem_cons_succ, List.setIfInBounds_toArray, List.set_cons_zero, List.set_cons_succ])
        refine wpAnyC_take [21] (i := 3) (oi := _) (v := undef) rfl (by kernel_rfl) (by kernel_rfl) (by kernel_rfl) (by kernel_rfl) (fun _ _ _ h => h) (Or.inr ⟨by rfl, rfl⟩) (by assumption) ?rest12c_3
        (try simp only [Act.put, Array.getInternal_eq_getElem, List.getElem_toArray, List.getElem_cons_zero, List.getElem_cons_succ, List.setIfInBounds_toArray, List.set_cons_zero, List.set_cons_succ])
        refine wpAnyC_take [21] (i := 4) (oi := _) (v := undef) rfl (by kernel_rfl) (by kernel_rfl) (by kernel_rfl) (by kernel_rfl) (fun _ _ _ h => h) (Or.inr ⟨by rfl, rfl⟩) (by assumption) ?rest12c_4
        (try simp only [Act.put, Array.getInternal_eq_getElem, List.getElem_toArray, List.getElem_cons_zero, List.getElem_cons_succ, List.setIfInBounds_toArray, List.set_cons_zero, List.set_cons_succ])
        refine wpAnyC_take [21] (i := 5) (oi := _) (v := undef) rfl (by kernel_rfl) (by kernel_rfl) (by kernel_rfl) (by kernel_rfl) (fun _ _ _ h => h) (Or.inr ⟨by rfl, rfl⟩) (by assumption) ?rest12c_5
        (try simp only [Act.put, Array.getInternal_eq_getElem, List.getElem_toArray, List.getElem_cons_zero, List.getElem_cons_succ, List.setIfInBounds_toArray, List.set_cons_zero, List.set_cons_succ])
        refine wpAnyC_take [21] (i := 6) (oi := _) (v := undef) rfl (by kernel_rfl) (by kernel_rfl) (by kernel_rfl) (by kernel_rfl) (fun _ _ _ h => h) (Or.inr ⟨by rfl, rfl⟩) (by assumption) ?rest12c_6
        (try simp only [Act.put, Array.getInternal_eq_getElem, List.getElem_toArray, List.getElem_cons_zero, List.getElem_cons_succ, List.setIfInBounds_toArray, List.set_cons_zero, List.set_cons_succ])
        refine wpAnyC_take [21] (i := 7) (oi := _) (v := undef) rfl (by kernel_rfl) (by kernel_rfl) (by kernel_rfl) (by kernel_rfl) (fun _ _ _ h => h) (Or.inr ⟨by rfl, rfl⟩) (by assumption) ?rest12c_7
        (try simp only [Act.put, Array.getInternal_eq_getElem, List.getElem_toArray, List.getElem_cons_zero, List.getElem_cons_succ, List.setIfInBounds_toArray, List.set_cons_zero, List.set_cons_succ])
        refine wpAnyC_take [21] (i := 8) (oi := _) (v := undef) rfl (by kernel_rfl) (by kernel_rfl) (by kernel_rfl) (by kernel_rfl) (fun _ _ _ h => h) (Or.inr ⟨by rfl, rfl⟩) (by assumption) ?rest12c_8
        (try simp only [Act.put, Array.getInternal_eq_getElem, List.getElem_toArray, List.getElem_cons_zero, List.getElem_cons_succ, List.setIfInBounds_toArray, List.set_cons_zero, List.set_cons_succ])
        refine wpAnyC_take [21] (i := 9) (oi := _) (v := undef) rfl (by kernel_rfl) (by kernel_rfl) (by kernel_rfl) (by kernel_rfl) (fun _ _ _ h => h) (Or.inr ⟨by rfl, rfl⟩) (by assumption) ?rest12c_9
        (try simp only [Act.put, Array.getInternal_eq_getElem, List.getElem_toArray, List.getElem_cons_zero, List.getElem_cons_succ, List.setIfInBounds_toArray, List.set_cons_zero, List.set_cons_succ])
        refine wpAnyC_take [21] (i := 10) (oi := _) (v := undef) rfl (by kernel_rfl) (by kernel_rfl) (by kernel_rfl) (by kernel_rfl) (fun _ _ _ h => h) (Or.inr ⟨by rfl, rfl⟩) (by assumption) ?rest12c_10
        (try simp only [Act.put, Array.getInternal_eq_getElem, List.getElem_toArray, List.getElem_cons_zero, List.getElem_cons_succ, List.setIfInBounds_toArray, List.set_cons_zero, List.set_cons_succ])
        refine wpAnyC_take [21] (i := 11) (oi := _) (v := undef) rfl (by kernel_rfl) (by kernel_rfl) (by kernel_rfl) (by kernel_rfl) (fun _ _ _ h => h) (Or.inr ⟨by rfl, rfl⟩) (by assumption) ?rest12c_11
        (try simp only [Act.put, Array.getInternal_eq_getElem, List.getElem_toArray, List.getElem_cons_zero, List.getElem_cons_succ, List.setIfInBounds_toArray, List.set_cons_zero, List.set_cons_succ])
        refine wpAnyC_take [21] (i := 12) (oi := _) (v := undef) rfl (by kernel_rfl) (by kernel_rfl) (by kernel_rfl) (by kernel_rfl) (fun _ _ _ h => h) (Or.inr ⟨by rfl, rfl⟩) (by assumption) ?rest12c_12
        (try simp only [Act.put, Array.getInternal_eq_getElem, List.getElem_toArray, List.getElem_cons_zero, List.getElem_cons_succ, List.setIfInBounds_toArray, List.set_cons_zero, List.set_cons_succ])
        refine wpAnyC_take [21] (i := 13) (oi := _) (v := undef) rfl (by kernel_rfl) (by kernel_rfl) (by kernel_rfl) (by kernel_rfl) (fun _ _ _ h => h) (Or.inr ⟨by rfl, rfl⟩) (by assumption) ?rest12c_13
        (try simp only [Act.put, Array.getInternal_eq_getElem, List.getElem_toArray, List.getElem_cons_zero, List.getElem_cons_succ, List.setIfInBounds_toArray, List.set_cons_zero, List.set_cons_succ])
        refine wpAnyC_take [21] (i := 14) (oi := _) (v := undef) rfl (by kernel_rfl) (by kernel_rfl) (by kernel_rfl) (by kernel_rfl) (fun _ _ _ h => h) (Or.inr ⟨by rfl, rfl⟩) (by assumption) ?rest12c_14
        (try simp only [Act.put, Array.getInternal_eq_getElem, List.getElem_toArray, List.getElem_cons_zero, List.getElem_cons_succ, List.setIfInBounds_toArray, List.set_cons_zero, List.set_cons_succ])
        refine wpAnyC_take [21] (i := 15) (oi := _) (v := undef) rfl (by kernel_rfl) (by kernel_rfl) (by kernel_rfl) (by kernel_rfl) (fun _ _ _ h => h) (Or.inr ⟨by rfl, rfl⟩) (by assumption) ?rest12c_15
        (try simp only [Act.put, Array.getInternal_eq_getElem, List.getElem_toArray, List.getElem_cons_zero, List.getElem_cons_succ, List.setIfInBounds_toArray, List.set_cons_zero, List.set_cons_succ])
        refine wpAnyC_take [21] (i := 16) (oi := _) (v := undef) rfl (by kernel_rfl) (by kernel_rfl) (by kernel_rfl) (by kernel_rfl) (fun _ _ _ h => h) (Or.inr ⟨by rfl, rfl⟩) (by assumption) ?rest12c_16
        (try simp only [Act.put, Array.getInternal_eq_getElem, List.getElem_toArray, List.getElem_cons_zero, List.getElem_cons_succ, List.setIfInBounds_toArray, List.set_cons_zero, List.set_cons_succ])
        refine wpAnyC_take [21] (i := 17) (oi := _) (v := undef) rfl (by kernel_rfl) (by kernel_rfl) (by kernel_rfl) (by kernel_rfl) (fun _ _ _ h => h) (Or.inr ⟨by rfl, rfl⟩) (by assumption) ?rest12c_17
        (try simp only [Act.put, Array.getInternal_eq_getElem, List.getElem_toArray, List.getElem_cons_zero, List.getElem_cons_succ, List.setIfInBounds_toArray, List.set_cons_zero, List.set_cons_succ])
        refine wpAnyC_take [21] (i := 18) (oi := _) (v := undef) rfl (by kernel_rfl) (by kernel_rfl) (by kernel_rfl) (by kernel_rfl) (fun _ _ _ h => h) (Or.inr ⟨by rfl, rfl⟩) (by assumption) ?rest12c_18
        (try simp only [Act.put, Array.getInternal_eq_getElem, List.getElem_toArray, List.getElem_cons_zero, List.getElem_cons_succ, List.setIfInBounds_toArray, List.set_cons_zero, List.set_cons_succ])
        refine wpAnyC_take [21] (i := 19) (oi := _) (v := undef) rfl (by kernel_rfl) (by kernel_rfl) (by kernel_rfl) (by kernel_rfl) (fun _ _ _ h => h) (Or.inr ⟨by rfl, rfl⟩) (by assumption) ?rest12c_19
        (try simp only [Act.put, Array.getInternal_eq_getElem, List.getElem_toArray, List.getElem_cons_zero, List.getElem_cons_succ, List.setIfInBounds_toArray, List.set_cons_zero, List.set_cons_succ])
        refine wpAnyC_take [21] (i := 20) (oi := _) (v := ?v12c_20) rfl (by kernel_rfl) (by kernel_rfl) (by kernel_rfl) (by kernel_rfl) (fun _ _ _ h => h) (Or.inl ⟨by rfl, ?hy12c_20⟩) (by assumption) ?rest12c_20
        case hy12c_20 => ((intro w hSw; (try dsimp only at hSw); go_simp); (try with_reducible rfl))
        (try simp only [Act.put, Array.getInternal_eq_getElem, List.getElem_toArray, List.getElem_cons_zero, List.getElem_cons_succ, List.setIfInBounds_toArray, List.set_cons_zero, List.set_cons_succ])
        refine wpAnyC_last (o := _) (by kernel_rfl) rfl (fun K hK => ?_)
        go_simp
        refine hK.out _ _ ?_
        clear hK K
        refine wpAnyC_done (by kernel_rfl) ?_ _
        clear s0 a0 x2 x0 cgx f0 cv
        go_wp2
        have hp2 := EnvP.drewN1 (HPr.out.set (true))
        rw [HXX.out] at hp2
        obtain ⟨⟨l1, l2, l3, l4⟩, l5⟩ := HLI.out
        have hx2 : Ex wr (wr.setCell ⟨K + 2, 0, none⟩ (.bool (true))).drew (fun q => q = K + 2) := ((Ex.refl wr (fun q => q = K + 2)).set ⟨K + 2, 0, none⟩ _ fun _ => rfl).drew
        exact ⟨⟨k + 1, by omega, by simp, by rw [HVAL.out, HXX.out]; exact hp2, HMr.out.ex hx2 (by omega) (by omega) (by omega) (by omega) (by omega), hx2.below HBr.out (fun q hq h => by omega) (by have h1 := HPr.out.sz; rw [HXX.out] at h1; have h2 : wr.heap.size = K + 3 := h1; omega)⟩, by simp [intOf]; omega⟩
    · have hkk : k = gets.length := by omega
      subst hkk
      have x5 : wr.cell? ⟨H + 1, 5, none⟩ = some (.int .i64 xh) := hp.x 5 (by omega)
      have g0 : wr.cell? ⟨K + 2, 0, none⟩ = some (.bool cg) := hp.g.1
      have hsz : wr.heap.size = K + 3 := hp.sz
      have HSZ := Lib.hid hsz
      obtain ⟨q, hq⟩ : ∃ q, q = Int.tmod xh 3 := ⟨_, rfl⟩
      have hq1 : -3 < q ∧ q < 3 := by rw [hq]; exact ⟨Int.lt_tmod_of_pos xh (by omega), Int.tmod_lt_of_pos xh (by omega)⟩
      obtain ⟨hw, hhw⟩ : ∃ hw, hw = Int.tmod (q + 3) 3 := ⟨_, rfl⟩
      have hw3 : hw = 0 ∨ hw = 1 ∨ hw = 2 := by rw [hhw, Int.tmod_eq_emod_of_nonneg (by omega)]; omega
      have r1 : Int.tmod xh 3 = q := hq.symm
      have r2 : IntKind.i64.wrap (q + 3) = q + 3 := by rw [IntKind.wrap_i64]; omega
      have r3 : Int.tmod (q + 3) 3 = hw := hhw.symm
      have HCG := Lib.hid hcg
      have HHQ := Lib.hid (And.intro hq hhw)
      have g0a : (wr.alloc (.cells #[.int .i64 1] 3)).cell? ⟨K + 2, 0, none⟩ = some (.bool cg) := cell_alloc g0
      have m0 : wr.cell? ⟨K, 0, none⟩ = some (.pointer (some ⟨m, 0, none⟩)) := hp.m
      clear hq hhw hcg hsz hlt hk hp
      have m0a : ∀ hf : Int, (((wr.alloc (.cells #[.int .i64 hf] 3)).alloc (.cells #[.int .i64 0] 3)).alloc (.cells #[.bool true] 4)).cell? ⟨K, 0, none⟩ = some (.pointer (some ⟨m, 0, none⟩)) := fun hf => cell_alloc (cell_alloc (cell_alloc m0))
      have hmf := mkFn
      rcases hw3 with e | e | e
      · subst e
        go_wp2_with (go_at_call 6; refine halt_ ?_)
        refine Halt_.go ?_
        obtain ⟨w5, hw5⟩ : ∃ w5, w5 = ((wr.alloc (.cells #[.int .i64 0] 3)).alloc (.cells #[.int .i64 0] 3)).alloc (.cells #[.bool true] 4) := ⟨_, rfl⟩
        have hsz := HSZ.out
        rw [← hw5, hsz, show K + 3 + 1 = K + 4 from rfl, show K + 4 + 1 = K + 5 from rfl]
        have hb5 : Below wr.heap.size wr w5 := by rw [hw5]; exact (((Below.refl _ wr).alloc (Nat.le_refl _) _).alloc (by simp) _).alloc (by simp; omega) _
        have hs5 : w5.heap.size = K + 6 := by rw [hw5]; simp [hsz]
        have u3 : w5.heap[K + 3]? = some (.cells #[.int .i64 0] 3 (0, 0)) := by rw [hw5]; exact (Go.heap_alloc_old _ _ (by simp; omega)).trans ((Go.heap_alloc_old _ _ (by simp; omega)).trans (heap_at _ _ _ hsz))
        have u4 : w5.heap[K + 4]? = some (.cells #[.int .i64 0] 3 (0, 0)) := by rw [hw5]; exact (Go.heap_alloc_old _ _ (by simp; omega)).trans (heap_at _ _ _ (by simp [hsz]))
        have u5 : w5.heap[K + 5]? = some (.cells #[.bool true] 4 (0, 0)) := by rw [hw5]; exact heap_at _ _ _ (by simp [hsz])
        have he := env_of HPr.out (.func (.func 7) #[] #[.pointer (some ⟨K + 4, 0, none⟩), .pointer (some ⟨H + 1, 0, none⟩), .pointer (some ⟨H + 2, 0, none⟩), .pointer (some ⟨H, 0, none⟩), .pointer (some ⟨K + 1, 0, none⟩), .pointer (some ⟨K + 5, 0, none⟩), .pointer (some ⟨K, 0, none⟩), .pointer (some ⟨K + 3, 0, none⟩), .pointer (some ⟨K + 2, 0, none⟩)]) 0 hb5 (by rw [hs5, HXX.out]) (by rw [HXX.out]; exact cell_of_row w5 _ 0 _ _ _ u3) (by rw [HXX.out]; exact u4) (by rw [HXX.out]; exact u5)
        have hm5 := HMr.out.ex (Ex.of_below hb5) (S := fun _ => False) id id id id id
        have hd5 : Deb w5 := (HD.out.below HBr.out h1).below hb5 (by omega)
        rw [HXX.out] at he
        have hal : a < first.length := by rw [← HNN.out]; exact han
        have hnl : 0 < first.length ∧ first.length ≤ 20 := by rw [← HNN.out]; exact hn
        have HAT := Lib.hid (atomically7 (X := (⟨H, K, m, A, B, c, d, first, gets, xa, xw, xp, xh, more, a, 0, cg, .func (.func 7) #[] #[.pointer (some ⟨K + 4, 0, none⟩), .pointer (some ⟨H + 1, 0, none⟩), .pointer (some ⟨H + 2, 0, none⟩), .pointer (some ⟨H, 0, none⟩), .pointer (some ⟨K + 1, 0, none⟩), .pointer (some ⟨K + 5, 0, none⟩), .pointer (some ⟨K, 0, none⟩), .pointer (some ⟨K + 3, 0, none⟩), .pointer (some ⟨K + 2, 0, none⟩)]⟩ : NX)) w5 (show K + 6 = w5.heap.size by omega) he rfl hm5 HLI.out.1 hd5 h1 hnl hal hg (HCG.out.trans (chg_oth (⟨H, K, m, A, B, c, d, first, gets, xa, xw, xp, xh, more, a, 0, cg, .func (.func 7) #[] #[.pointer (some ⟨K + 4, 0, none⟩), .pointer (some ⟨H + 1, 0, none⟩), .pointer (some ⟨H + 2, 0, none⟩), .pointer (some ⟨H, 0, none⟩), .pointer (some ⟨K + 1, 0, none⟩), .pointer (some ⟨K + 5, 0, none⟩), .pointer (some ⟨K, 0, none⟩), .pointer (some ⟨K + 3, 0, none⟩), .pointer (some ⟨K + 2, 0, none⟩)]⟩ : NX) hnl.1 hal)) (by show ((0 : Int) = 1 → cg = true); intro hh; first | rfl | (exfalso; omega)))
        have HB5 := Lib.hid (HBr.out.trans (hb5.mono (show H ≤ wr.heap.size by rw [hsz]; omega)))
        clear hb5 u3 u4 u5 he hm5 hd5 hw5 hs5 x0 x5 g0 g0a m0 m0a hsz r1 r2 r3 hq1 hmf
        refine HAT.out.mono ?_
        rintro e w6 ⟨hb6, ch6, h6⟩
        rcases h6 with ⟨q1, rfl, he6, hm6⟩ | ⟨q1, rfl, he6, hm6⟩
        · exact absurd q1 (by show ¬ (0 : Int) = 2; decide)
        · cases cg
          · have hb6' := HB5.out.trans hb6
            have hs6 : K + 6 < w6.heap.size := he6.size
            obtain ⟨w6a, hw6a⟩ : ∃ w6a, w6a = w6.alloc (.cells #[] 23) := ⟨_, rfl⟩
            have hba : Below w6.heap.size w6 w6a := by rw [hw6a]; exact (Below.refl _ w6).alloc (Nat.le_refl _) _
            have hsa : w6a.heap.size = w6.heap.size + 1 := by rw [hw6a]; simp
            have hra : RK .u64 w6a H A first := he6.rf.below (hba.mono (show H ≤ w6.heap.size by omega))
            have hoa : w6a.ownsRow w6.heap.size 23 1 (.slice (some ⟨w6.heap.size, 0, none⟩) 0 0) 0 [] := ⟨rfl, .inr ⟨w6.heap.size, 0, #[], rfl, Nat.le_refl _, by rw [hw6a]; exact heap_at _ _ _ rfl, Nat.le_refl _, by decide, rfl, rfl⟩⟩
            have f6 : (w6.alloc (.cells #[] 23)).cell? ⟨H, 0, none⟩ = some (.slice A first.length c) := cell_alloc he6.f
            have HB6 := Lib.hid hb6'
            have HE6 := Lib.hid he6
            have HM6 := Lib.hid hm6
            have HWA := Lib.hid hw6a
            have HBA := Lib.hid hba
            have HSA := Lib.hid hsa
            have HRA := Lib.hid hra
            have HOA := Lib.hid hoa
            clear q1 he6 hm6 hb6 hb6' HAT HB5 hw6a hba hsa hra hoa
            go_wp2_with (at_builtin; refine halt_ ?_)
            refine Halt_.go ?_
            rw [← HWA.out]
            refine wl_append_src _ (by rfl) (.tmp 94) (.tmp 95) 22 (by rfl) w6.heap.size 23 _ 1 8 info23 Tryz.underlying22 rfl (by decide) (.slice (some ⟨w6.heap.size, 0, none⟩) 0 0) 0 [] (by rfl) HOA.out A first.length c (wds first) (by rfl) (by simp [wds]) (fun hA => HRA.out.none_ hA) HRA.out.cells (fun u hu => by obtain ⟨y, _, rfl⟩ := List.mem_map.1 hu; rfl) (by omega) (by omega) (by have := HSA.out; omega) ?_
            intro A1 cl w7 hown7 hgr7 hnil7
            simp only [Nat.zero_add, List.nil_append] at hown7
            obtain ⟨gl, cl', hvL, hbgl, hgl⟩ := hown7.form hnl.1
            injection hvL with hA1 _ hcl
            subst hA1 hcl
            have hb7 : Below w6.heap.size w6 w7 := HBA.out.grown hgr7 (by have := HSA.out; omega) (fun q hq => by injection hq with hq; show w6.heap.size ≤ q; exact Nat.le_of_eq hq)
            have hlk := fun k hk => (show k < w6.heap.size by have h2 : k < K + 7 := (env_lt HE6.out hk).2; omega)
            have he7 := HE6.out.kept (fun k hk => hb7.block k (hlk k hk)) (fun k hk => hb7.block k (Nat.lt_trans hk (by show H < w6.heap.size; omega)))
            have hm7 := HM6.out.ex (Ex.of_below hb7) (S := fun _ => False) id id id id id
            have a7 : w7.cell? ⟨K + 1, 0, none⟩ = some (.int .u64 a) := he7.a
            have x7 : w7.cell? ⟨H + 1, 2, none⟩ = some (.int .u64 xw) := he7.x 2 (by omega)
            have p1 : (0 : Int) ≤ (a : Int) := by omega
            have p2 : (a : Int) < (first.length : Int) := by omega
            obtain ⟨v7, hv7⟩ : ∃ v7, first[a]? = some v7 := ⟨_, List.getElem?_eq_getElem hal⟩
            have s7 : w7.cell? ⟨gl, a, none⟩ = some (.int .u64 v7) := by rw [hown7.cellAt a (by omega)]; simp [wds, hv7]
            have z7 : w7.frozen? ⟨gl, a, none⟩ = false := hown7.frozenAt a
            have hown8 := (World.ownsRow.stored hown7 a (.int .u64 xw)).1
            have hx8 : Ex w7 (w7.setCell ⟨gl, a, none⟩ (.int .u64 xw)) (fun q => q = gl) := (Ex.refl w7 (fun q => q = gl)).set ⟨gl, a, none⟩ _ fun _ => rfl
            have he8 := he7.ex hx8 (fun k hk => by subst hk; refine ⟨by show H ≤ _; omega, fun hh => ?_⟩; have := hlk _ hh; omega)
            have hml : (m < gl ∧ cb < gl ∧ g < gl ∧ sc < gl ∧ ch6 < gl) := by have l1 := HM6.out.blk.lt; have l2 := HM6.out.cel.lt; have l3 := HM6.out.lch; omega
            have hm8 := hm7.ex hx8 (by omega) (by omega) (by omega) (by omega) (by omega)
            have hb8 := hx8.below (HB6.out.trans (hb7.mono (show H ≤ w6.heap.size by omega))) (fun k hk h => by omega) (by have := HB6.out.size; have := HHH.out; have := hb7.size; omega)
            obtain ⟨v8, hv8⟩ : ∃ v8, (first.set a xw)[0]? = some v8 := ⟨_, List.getElem?_eq_getElem (by rw [List.length_set]; exact hnl.1)⟩
            have hwds : (wds first).set a (.int .u64 xw) = wds (first.set a xw) := by simp [wds, List.map_set]
            rw [hwds] at hown8
            have h8 : (w7.setCell ⟨gl, a, none⟩ (.int .u64 xw)).cell? ⟨K + 3, 0, none⟩ = some (.int .i64 0) := he8.h
            have x8 : (w7.setCell ⟨gl, a, none⟩ (.int .u64 xw)).cell? ⟨H + 1, 4, none⟩ = some (.int .u64 xp) := he8.x 4 (by omega)
            have s8 : (w7.setCell ⟨gl, a, none⟩ (.int .u64 xw)).cell? ⟨gl, 0, none⟩ = some (.int .u64 v8) := by rw [hown8.cellAt 0 (by omega), wds, List.getElem?_map, hv8]; rfl
            have z8 : (w7.setCell ⟨gl, a, none⟩ (.int .u64 xw)).frozen? ⟨gl, 0, none⟩ = false := hown8.frozenAt 0
            have p3 : (0 : Int) < (first.length : Int) := by omega
            have hown9 := (World.ownsRow.stored hown8 0 (.int .u64 xp)).1
            have hwds2 : (wds (first.set a xw)).set 0 (.int .u64 xp) = wds ((first.set a xw).set 0 xp) := by simp [wds, List.map_set]
            rw [hwds2] at hown9
            have hx9 : Ex (w7.setCell ⟨gl, a, none⟩ (.int .u64 xw)) ((w7.setCell ⟨gl, a, none⟩ (.int .u64 xw)).setCell ⟨gl, 0, none⟩ (.int .u64 xp)) (fun q => q = gl) := (Ex.refl _ (fun q => q = gl)).set ⟨gl, 0, none⟩ _ fun _ => rfl
            have he9 := he8.ex hx9 (fun k hk => by subst hk; refine ⟨by show H ≤ _; omega, fun hh => ?_⟩; have := hlk _ hh; omega)
            have hm9 := hm8.ex hx9 (by omega) (by omega) (by omega) (by omega) (by omega)
            have hb9 := hx9.below hb8 (fun k hk h => by omega) (by have := hb8.size; have := HHH.out; omega)
            obtain ⟨w9, hw9⟩ : ∃ w9, w9 = (w7.setCell ⟨gl, a, none⟩ (.int .u64 xw)).setCell ⟨gl, 0, none⟩ (.int .u64 xp) := ⟨_, rfl⟩
            have g9 : ((w7.setCell ⟨gl, a, none⟩ (.int .u64 xw)).setCell ⟨gl, 0, none⟩ (.int .u64 xp)).cell? ⟨K + 2, 0, none⟩ = some (.bool false) := he9.g
            have fi9 : ((w7.setCell ⟨gl, a, none⟩ (.int .u64 xw)).setCell ⟨gl, 0, none⟩ (.int .u64 xp)).cell? ⟨K + 5, 0, none⟩ = some (.bool true) := he9.fi.1
            have c9 : ((w7.setCell ⟨gl, a, none⟩ (.int .u64 xw)).setCell ⟨gl, 0, none⟩ (.int .u64 xp)).cell? ⟨K + 4, 0, none⟩ = some (.int .i64 1) := he9.c.1
            rw [← hw9] at hown9 hm9 hb9 he9
            have HOW9 := Lib.hid hown9
            have HM9 := Lib.hid hm9
            have HB9 := Lib.hid hb9
            have HE9 := Lib.hid he9
            have HW9 := Lib.hid hw9
            clear hown7 hgr7 hnil7 hbgl hgl hb7 hlk he7 hm7 hown8 hx8 he8 hm8 hb8 hw9 hwds hwds2 hown9 hx9 he9 hm9 hb9 hml hv7 hv8 f6 HB6 HE6 HM6 HWA HBA HSA HRA HOA
            rw [Nat.zero_add]
            have H8 := Lib.hid (num8 w9 0)
            have hwd := memWords w9 HM9.out (.inr (.inr rfl)) (by rw [List.length_set, List.length_set]; omega)
            rw [List.length_set, List.length_set] at hwd
            have HWD := Lib.hid hwd
            have HNU := Lib.hid (memNumber w9 HM9.out (.inr (.inr rfl)))
            have m9 : w9.cell? ⟨K, 0, none⟩ = some (.pointer (some ⟨m, 0, none⟩)) := HE9.out.m
            clear hwd HM9 HE9
            go_wp2_with (go_at_call 8; refine halt_ ?_)
            refine Halt_.go ?_
            rw [← HW9.out]
            refine H8.out.mono ?_
            rintro e w' ⟨rfl, rfl⟩
            clear H8 a7 x7 s7 z7 h8 x8 s8 z8 g9 fi9 c9 HW9
            go_wp2_with (go_at_call 13; refine halt_ ?_)
            refine Halt_.go ?_
            refine HNU.out.mono ?_
            rintro e w'' ⟨rfl, rfl⟩
            clear HNU
            go_wp2_with (go_at_call 12; refine halt_ ?_)
            refine Halt_.go ?_
            refine HWD.out.mono ?_
            rintro e wB ⟨AB, cB, rfl, hownB, hbB⟩
            have hkw := kitWords wB AB (some ⟨gl, 0, none⟩) cB cl ((first.set a xw).set 0 xp) ((first.set a xw).set 0 xp) (RK.of_own (by rw [List.length_set, List.length_set]; exact hownB)) (RK.of_own (by rw [List.length_set, List.length_set]; exact own_below HOW9.out hbB)) (by rw [List.length_set, List.length_set]; omega)
            rw [List.length_set, List.length_set] at hkw
            have HKW := Lib.hid hkw
            have HBB := Lib.hid (HB9.out.trans (hbB.mono (show H ≤ w''.heap.size by have := HB9.out.size; have := HHH.out; omega)))
            clear hkw hownB hbB HWD HOW9
            go_wp2_with (go_at_call 11; refine halt_ ?_)
            refine Halt_.go ?_
            refine HKW.out.mono ?_
            rintro e wC ⟨rfl, hb10⟩
            have hb10' := HBB.out.trans (hb10.mono (show H ≤ wB.heap.size by have := HBB.out.size; have := HHH.out; omega))
            have HWK := Lib.hid (works wC (HD.out.below hb10' h1) (by have := hb10'.size; have := HHH.out; omega))
            have HB10 := Lib.hid hb10'
            clear hb10 hb10' HKW HBB
            simp only [decide_true]
            go_wp2_with (go_at_call 4; refine halt_ ?_)
            refine Halt_.go ?_
            refine HWK.out.mono ?_
            rintro e w11 ⟨rfl, hb11⟩
            have HB11 := Lib.hid (HB10.out.trans (hb11.mono (by have := HB10.out.size; have := HHH.out; omega)))
            clear hb11 HWK HB10
            go_wp2
            go_ret
            exact ⟨rfl, HB11.out⟩
          · have hb6' := HB5.out.trans hb6
            have hs6 : K + 6 < w6.heap.size := he6.size
            obtain ⟨w6a, hw6a⟩ : ∃ w6a, w6a = w6.alloc (.cells #[] 23) := ⟨_, rfl⟩
            have hba : Below w6.heap.size w6 w6a := by rw [hw6a]; exact (Below.refl _ w6).alloc (Nat.le_refl _) _
            have hsa : w6a.heap.size = w6.heap.size + 1 := by rw [hw6a]; simp
            have hra : RK .u64 w6a H A first := he6.rf.below (hba.mono (show H ≤ w6.heap.size by omega))
            have hoa : w6a.ownsRow w6.heap.size 23 1 (.slice (some ⟨w6.heap.size, 0, none⟩) 0 0) 0 [] := ⟨rfl, .inr ⟨w6.heap.size, 0, #[], rfl, Nat.le_refl _, by rw [hw6a]; exact heap_at _ _ _ rfl, Nat.le_refl _, by decide, rfl, rfl⟩⟩
            have f6 : (w6.alloc (.cells #[] 23)).cell? ⟨H, 0, none⟩ = some (.slice A first.length c) := cell_alloc he6.f
            have HB6 := Lib.hid hb6'
            have HE6 := Lib.hid he6
            have HM6 := Lib.hid hm6
            have HWA := Lib.hid hw6a
            have HBA := Lib.hid hba
            have HSA := Lib.hid hsa
            have HRA := Lib.hid hra
            have HOA := Lib.hid hoa
            clear q1 he6 hm6 hb6 hb6' HAT HB5 hw6a hba hsa hra hoa
            go_wp2_with (at_builtin; refine halt_ ?_)
            refine Halt_.go ?_
            rw [← HWA.out]
            refine wl_append_src _ (by rfl) (.tmp 94) (.tmp 95) 22 (by rfl) w6.heap.size 23 _ 1 8 info23 Tryz.underlying22 rfl (by decide) (.slice (some ⟨w6.heap.size, 0, none⟩) 0 0) 0 [] (by rfl) HOA.out A first.length c (wds first) (by rfl) (by simp [wds]) (fun hA => HRA.out.none_ hA) HRA.out.cells (fun u hu => by obtain ⟨y, _, rfl⟩ := List.mem_map.1 hu; rfl) (by omega) (by omega) (by have := HSA.out; omega) ?_
            intro A1 cl w7 hown7 hgr7 hnil7
            simp only [Nat.zero_add, List.nil_append] at hown7
            obtain ⟨gl, cl', hvL, hbgl, hgl⟩ := hown7.form hnl.1
            injection hvL with hA1 _ hcl
            subst hA1 hcl
            have hb7 : Below w6.heap.size w6 w7 := HBA.out.grown hgr7 (by have := HSA.out; omega) (fun q hq => by injection hq with hq; show w6.heap.size ≤ q; exact Nat.le_of_eq hq)
            have hlk := fun k hk => (show k < w6.heap.size by have h2 : k < K + 7 := (env_lt HE6.out hk).2; omega)
            have he7 := HE6.out.kept (fun k hk => hb7.block k (hlk k hk)) (fun k hk => hb7.block k (Nat.lt_trans hk (by show H < w6.heap.size; omega)))
            have hm7 := HM6.out.ex (Ex.of_below hb7) (S := fun _ => False) id id id id id
            have a7 : w7.cell? ⟨K + 1, 0, none⟩ = some (.int .u64 a) := he7.a
            have x7 : w7.cell? ⟨H + 1, 2, none⟩ = some (.int .u64 xw) := he7.x 2 (by omega)
            have p1 : (0 : Int) ≤ (a : Int) := by omega
            have p2 : (a : Int) < (first.length : Int) := by omega
            obtain ⟨v7, hv7⟩ : ∃ v7, first[a]? = some v7 := ⟨_, List.getElem?_eq_getElem hal⟩
            have s7 : w7.cell? ⟨gl, a, none⟩ = some (.int .u64 v7) := by rw [hown7.cellAt a (by omega)]; simp [wds, hv7]
            have z7 : w7.frozen? ⟨gl, a, none⟩ = false := hown7.frozenAt a
            have hown8 := (World.ownsRow.stored hown7 a (.int .u64 xw)).1
            have hx8 : Ex w7 (w7.setCell ⟨gl, a, none⟩ (.int .u64 xw)) (fun q => q = gl) := (Ex.refl w7 (fun q => q = gl)).set ⟨gl, a, none⟩ _ fun _ => rfl
            have he8 := he7.ex hx8 (fun k hk => by subst hk; refine ⟨by show H ≤ _; omega, fun hh => ?_⟩; have := hlk _ hh; omega)
            have hml : (m < gl ∧ cb < gl ∧ g < gl ∧ sc < gl ∧ ch6 < gl) := by have l1 := HM6.out.blk.lt; have l2 := HM6.out.cel.lt; have l3 := HM6.out.lch; omega
            have hm8 := hm7.ex hx8 (by omega) (by omega) (by omega) (by omega) (by omega)
            have hb8 := hx8.below (HB6.out.trans (hb7.mono (show H ≤ w6.heap.size by omega))) (fun k hk h => by omega) (by have := HB6.out.size; have := HHH.out; have := hb7.size; omega)
            obtain ⟨v8, hv8⟩ : ∃ v8, (first.set a xw)[0]? = some v8 := ⟨_, List.getElem?_eq_getElem (by rw [List.length_set]; exact hnl.1)⟩
            have hwds : (wds first).set a (.int .u64 xw) = wds (first.set a xw) := by simp [wds, List.map_set]
            rw [hwds] at hown8
            have h8 : (w7.setCell ⟨gl, a, none⟩ (.int .u64 xw)).cell? ⟨K + 3, 0, none⟩ = some (.int .i64 0) := he8.h
            have x8 : (w7.setCell ⟨gl, a, none⟩ (.int .u64 xw)).cell? ⟨H + 1, 4, none⟩ = some (.int .u64 xp) := he8.x 4 (by omega)
            have s8 : (w7.setCell ⟨gl, a, none⟩ (.int .u64 xw)).cell? ⟨gl, 0, none⟩ = some (.int .u64 v8) := by rw [hown8.cellAt 0 (by omega), wds, List.getElem?_map, hv8]; rfl
            have z8 : (w7.setCell ⟨gl, a, none⟩ (.int .u64 xw)).frozen? ⟨gl, 0, none⟩ = false := hown8.frozenAt 0
            have p3 : (0 : Int) < (first.length : Int) := by omega
            have hown9 := (World.ownsRow.stored hown8 0 (.int .u64 xp)).1
            have hwds2 : (wds (first.set a xw)).set 0 (.int .u64 xp) = wds ((first.set a xw).set 0 xp) := by simp [wds, List.map_set]
            rw [hwds2] at hown9
            have hx9 : Ex (w7.setCell ⟨gl, a, none⟩ (.int .u64 xw)) ((w7.setCell ⟨gl, a, none⟩ (.int .u64 xw)).setCell ⟨gl, 0, none⟩ (.int .u64 xp)) (fun q => q = gl) := (Ex.refl _ (fun q => q = gl)).set ⟨gl, 0, none⟩ _ fun _ => rfl
            have he9 := he8.ex hx9 (fun k hk => by subst hk; refine ⟨by show H ≤ _; omega, fun hh => ?_⟩; have := hlk _ hh; omega)
            have hm9 := hm8.ex hx9 (by omega) (by omega) (by omega) (by omega) (by omega)
            have hb9 := hx9.below hb8 (fun k hk h => by omega) (by have := hb8.size; have := HHH.out; omega)
            obtain ⟨w9, hw9⟩ : ∃ w9, w9 = (w7.setCell ⟨gl, a, none⟩ (.int .u64 xw)).setCell ⟨gl, 0, none⟩ (.int .u64 xp) := ⟨_, rfl⟩
            have g9 : ((w7.setCell ⟨gl, a, none⟩ (.int .u64 xw)).setCell ⟨gl, 0, none⟩ (.int .u64 xp)).cell? ⟨K + 2, 0, none⟩ = some (.bool true) := he9.g
            have fi9 : ((w7.setCell ⟨gl, a, none⟩ (.int .u64 xw)).setCell ⟨gl, 0, none⟩ (.int .u64 xp)).cell? ⟨K + 5, 0, none⟩ = some (.bool true) := he9.fi.1
            have c9 : ((w7.setCell ⟨gl, a, none⟩ (.int .u64 xw)).setCell ⟨gl, 0, none⟩ (.int .u64 xp)).cell? ⟨K + 4, 0, none⟩ = some (.int .i64 2) := he9.c.1
            rw [← hw9] at hown9 hm9 hb9 he9
            have HOW9 := Lib.hid hown9
            have HM9 := Lib.hid hm9
            have HB9 := Lib.hid hb9
            have HE9 := Lib.hid he9
            have HW9 := Lib.hid hw9
            clear hown7 hgr7 hnil7 hbgl hgl hb7 hlk he7 hm7 hown8 hx8 he8 hm8 hb8 hw9 hwds hwds2 hown9 hx9 he9 hm9 hb9 hml hv7 hv8 f6 HB6 HE6 HM6 HWA HBA HSA HRA HOA
            rw [Nat.zero_add]
            have H8 := Lib.hid (num8 w9 0)
            have hwd := memWords w9 HM9.out (.inr (.inr rfl)) (by rw [List.length_set, List.length_set]; omega)
            rw [List.length_set, List.length_set] at hwd
            have HWD := Lib.hid hwd
            have HNU := Lib.hid (memNumber w9 HM9.out (.inr (.inr rfl)))
            have m9 : w9.cell? ⟨K, 0, none⟩ = some (.pointer (some ⟨m, 0, none⟩)) := HE9.out.m
            clear hwd HM9 HE9
            go_wp2_with (go_at_call 8; refine halt_ ?_)
            refine Halt_.go ?_
            rw [← HW9.out]
            refine H8.out.mono ?_
            rintro e w' ⟨rfl, rfl⟩
            clear H8 a7 x7 s7 z7 h8 x8 s8 z8 g9 fi9 c9 HW9
            go_wp2_with (go_at_call 13; refine halt_ ?_)
            refine Halt_.go ?_
            refine HNU.out.mono ?_
            rintro e w'' ⟨rfl, rfl⟩
            clear HNU
            go_wp2_with (go_at_call 12; refine halt_ ?_)
            refine Halt_.go ?_
            refine HWD.out.mono ?_
            rintro e wB ⟨AB, cB, rfl, hownB, hbB⟩
            have hkw := kitWords wB AB (some ⟨gl, 0, none⟩) cB cl ((first.set a xw).set 0 xp) ((first.set a xw).set 0 xp) (RK.of_own (by rw [List.length_set, List.length_set]; exact hownB)) (RK.of_own (by rw [List.length_set, List.length_set]; exact own_below HOW9.out hbB)) (by rw [List.length_set, List.length_set]; omega)
            rw [List.length_set, List.length_set] at hkw
            have HKW := Lib.hid hkw
            have HBB := Lib.hid (HB9.out.trans (hbB.mono (show H ≤ w''.heap.size by have := HB9.out.size; have := HHH.out; omega)))
            clear hkw hownB hbB HWD HOW9
            go_wp2_with (go_at_call 11; refine halt_ ?_)
            refine Halt_.go ?_
            refine HKW.out.mono ?_
            rintro e wC ⟨rfl, hb10⟩
            have hb10' := HBB.out.trans (hb10.mono (show H ≤ wB.heap.size by have := HBB.out.size; have := HHH.out; omega))
            have HWK := Lib.hid (works wC (HD.out.below hb10' h1) (by have := hb10'.size; have := HHH.out; omega))
            have HB10 := Lib.hid hb10'
            clear hb10 hb10' HKW HBB
            simp only [decide_true]
            go_wp2_with (go_at_call 4; refine halt_ ?_)
            refine Halt_.go ?_
            refine HWK.out.mono ?_
            rintro e w11 ⟨rfl, hb11⟩
            have HB11 := Lib.hid (HB10.out.trans (hb11.mono (by have := HB10.out.size; have := HHH.out; omega)))
            clear hb11 HWK HB10
            go_wp2
            go_ret
            exact ⟨rfl, HB11.out⟩
      · cases cg
        · subst e
          go_wp2_with (go_at_call 6; refine halt_ ?_)
          refine Halt_.go ?_
          obtain ⟨w5, hw5⟩ : ∃ w5, w5 = ((wr.alloc (.cells #[.int .i64 0] 3)).alloc (.cells #[.int .i64 0] 3)).alloc (.cells #[.bool true] 4) := ⟨_, rfl⟩
          have hsz := HSZ.out
          rw [← hw5, hsz, show K + 3 + 1 = K + 4 from rfl, show K + 4 + 1 = K + 5 from rfl]
          have hb5 : Below wr.heap.size wr w5 := by rw [hw5]; exact (((Below.refl _ wr).alloc (Nat.le_refl _) _).alloc (by simp) _).alloc (by simp; omega) _
          have hs5 : w5.heap.size = K + 6 := by rw [hw5]; simp [hsz]
          have u3 : w5.heap[K + 3]? = some (.cells #[.int .i64 0] 3 (0, 0)) := by rw [hw5]; exact (Go.heap_alloc_old _ _ (by simp; omega)).trans ((Go.heap_alloc_old _ _ (by simp; omega)).trans (heap_at _ _ _ hsz))
          have u4 : w5.heap[K + 4]? = some (.cells #[.int .i64 0] 3 (0, 0)) := by rw [hw5]; exact (Go.heap_alloc_old _ _ (by simp; omega)).trans (heap_at _ _ _ (by simp [hsz]))
          have u5 : w5.heap[K + 5]? = some (.cells #[.bool true] 4 (0, 0)) := by rw [hw5]; exact heap_at _ _ _ (by simp [hsz])
          have he := env_of HPr.out (.func (.func 7) #[] #[.pointer (some ⟨K + 4, 0, none⟩), .pointer (some ⟨H + 1, 0, none⟩), .pointer (some ⟨H + 2, 0, none⟩), .pointer (some ⟨H, 0, none⟩), .pointer (some ⟨K + 1, 0, none⟩), .pointer (some ⟨K + 5, 0, none⟩), .pointer (some ⟨K, 0, none⟩), .pointer (some ⟨K + 3, 0, none⟩), .pointer (some ⟨K + 2, 0, none⟩)]) 0 hb5 (by rw [hs5, HXX.out]) (by rw [HXX.out]; exact cell_of_row w5 _ 0 _ _ _ u3) (by rw [HXX.out]; exact u4) (by rw [HXX.out]; exact u5)
          have hm5 := HMr.out.ex (Ex.of_below hb5) (S := fun _ => False) id id id id id
          have hd5 : Deb w5 := (HD.out.below HBr.out h1).below hb5 (by omega)
          rw [HXX.out] at he
          have hal : a < first.length := by rw [← HNN.out]; exact han
          have hnl : 0 < first.length ∧ first.length ≤ 20 := by rw [← HNN.out]; exact hn
          have HAT := Lib.hid (atomically7 (X := (⟨H, K, m, A, B, c, d, first, gets, xa, xw, xp, xh, more, a, 0, false, .func (.func 7) #[] #[.pointer (some ⟨K + 4, 0, none⟩), .pointer (some ⟨H + 1, 0, none⟩), .pointer (some ⟨H + 2, 0, none⟩), .pointer (some ⟨H, 0, none⟩), .pointer (some ⟨K + 1, 0, none⟩), .pointer (some ⟨K + 5, 0, none⟩), .pointer (some ⟨K, 0, none⟩), .pointer (some ⟨K + 3, 0, none⟩), .pointer (some ⟨K + 2, 0, none⟩)]⟩ : NX)) w5 (show K + 6 = w5.heap.size by omega) he rfl hm5 HLI.out.1 hd5 h1 hnl hal hg (HCG.out.trans (chg_oth (⟨H, K, m, A, B, c, d, first, gets, xa, xw, xp, xh, more, a, 0, false, .func (.func 7) #[] #[.pointer (some ⟨K + 4, 0, none⟩), .pointer (some ⟨H + 1, 0, none⟩), .pointer (some ⟨H + 2, 0, none⟩), .pointer (some ⟨H, 0, none⟩), .pointer (some ⟨K + 1, 0, none⟩), .pointer (some ⟨K + 5, 0, none⟩), .pointer (some ⟨K, 0, none⟩), .pointer (some ⟨K + 3, 0, none⟩), .pointer (some ⟨K + 2, 0, none⟩)]⟩ : NX) hnl.1 hal)) (by show ((0 : Int) = 1 → false = true); intro hh; first | rfl | (exfalso; omega)))
          have HB5 := Lib.hid (HBr.out.trans (hb5.mono (show H ≤ wr.heap.size by rw [hsz]; omega)))
          clear hb5 u3 u4 u5 he hm5 hd5 hw5 hs5 x0 x5 g0 g0a m0 m0a hsz r1 r2 r3 hq1 hmf
          refine HAT.out.mono ?_
          rintro e w6 ⟨hb6, ch6, h6⟩
          rcases h6 with ⟨q1, rfl, he6, hm6⟩ | ⟨q1, rfl, he6, hm6⟩
          · exact absurd q1 (by show ¬ (0 : Int) = 2; decide)
          · have hb6' := HB5.out.trans hb6
            have hs6 : K + 6 < w6.heap.size := he6.size
            obtain ⟨w6a, hw6a⟩ : ∃ w6a, w6a = w6.alloc (.cells #[] 23) := ⟨_, rfl⟩
            have hba : Below w6.heap.size w6 w6a := by rw [hw6a]; exact (Below.refl _ w6).alloc (Nat.le_refl _) _
            have hsa : w6a.heap.size = w6.heap.size + 1 := by rw [hw6a]; simp
            have hra : RK .u64 w6a H A first := he6.rf.below (hba.mono (show H ≤ w6.heap.size by omega))
            have hoa : w6a.ownsRow w6.heap.size 23 1 (.slice (some ⟨w6.heap.size, 0, none⟩) 0 0) 0 [] := ⟨rfl, .inr ⟨w6.heap.size, 0, #[], rfl, Nat.le_refl _, by rw [hw6a]; exact heap_at _ _ _ rfl, Nat.le_refl _, by decide, rfl, rfl⟩⟩
            have f6 : (w6.alloc (.cells #[] 23)).cell? ⟨H, 0, none⟩ = some (.slice A first.length c) := cell_alloc he6.f
            have HB6 := Lib.hid hb6'
            have HE6 := Lib.hid he6
            have HM6 := Lib.hid hm6
            have HWA := Lib.hid hw6a
            have HBA := Lib.hid hba
            have HSA := Lib.hid hsa
            have HRA := Lib.hid hra
            have HOA := Lib.hid hoa
            clear q1 he6 hm6 hb6 hb6' HAT HB5 hw6a hba hsa hra hoa
            go_wp2_with (at_builtin; refine halt_ ?_)
            refine Halt_.go ?_
            rw [← HWA.out]
            refine wl_append_src _ (by rfl) (.tmp 94) (.tmp 95) 22 (by rfl) w6.heap.size 23 _ 1 8 info23 Tryz.underlying22 rfl (by decide) (.slice (some ⟨w6.heap.size, 0, none⟩) 0 0) 0 [] (by rfl) HOA.out A first.length c (wds first) (by rfl) (by simp [wds]) (fun hA => HRA.out.none_ hA) HRA.out.cells (fun u hu => by obtain ⟨y, _, rfl⟩ := List.mem_map.1 hu; rfl) (by omega) (by omega) (by have := HSA.out; omega) ?_
            intro A1 cl w7 hown7 hgr7 hnil7
            simp only [Nat.zero_add, List.nil_append] at hown7
            obtain ⟨gl, cl', hvL, hbgl, hgl⟩ := hown7.form hnl.1
            injection hvL with hA1 _ hcl
            subst hA1 hcl
            have hb7 : Below w6.heap.size w6 w7 := HBA.out.grown hgr7 (by have := HSA.out; omega) (fun q hq => by injection hq with hq; show w6.heap.size ≤ q; exact Nat.le_of_eq hq)
            have hlk := fun k hk => (show k < w6.heap.size by have h2 : k < K + 7 := (env_lt HE6.out hk).2; omega)
            have he7 := HE6.out.kept (fun k hk => hb7.block k (hlk k hk)) (fun k hk => hb7.block k (Nat.lt_trans hk (by show H < w6.heap.size; omega)))
            have hm7 := HM6.out.ex (Ex.of_below hb7) (S := fun _ => False) id id id id id
            have a7 : w7.cell? ⟨K + 1, 0, none⟩ = some (.int .u64 a) := he7.a
            have x7 : w7.cell? ⟨H + 1, 2, none⟩ = some (.int .u64 xw) := he7.x 2 (by omega)
            have p1 : (0 : Int) ≤ (a : Int) := by omega
            have p2 : (a : Int) < (first.length : Int) := by omega
            obtain ⟨v7, hv7⟩ : ∃ v7, first[a]? = some v7 := ⟨_, List.getElem?_eq_getElem hal⟩
            have s7 : w7.cell? ⟨gl, a, none⟩ = some (.int .u64 v7) := by rw [hown7.cellAt a (by omega)]; simp [wds, hv7]
            have z7 : w7.frozen? ⟨gl, a, none⟩ = false := hown7.frozenAt a
            have hown8 := (World.ownsRow.stored hown7 a (.int .u64 xw)).1
            have hx8 : Ex w7 (w7.setCell ⟨gl, a, none⟩ (.int .u64 xw)) (fun q => q = gl) := (Ex.refl w7 (fun q => q = gl)).set ⟨gl, a, none⟩ _ fun _ => rfl
            have he8 := he7.ex hx8 (fun k hk => by subst hk; refine ⟨by show H ≤ _; omega, fun hh => ?_⟩; have := hlk _ hh; omega)
            have hml : (m < gl ∧ cb < gl ∧ g < gl ∧ sc < gl ∧ ch6 < gl) := by have l1 := HM6.out.blk.lt; have l2 := HM6.out.cel.lt; have l3 := HM6.out.lch; omega
            have hm8 := hm7.ex hx8 (by omega) (by omega) (by omega) (by omega) (by omega)
            have hb8 := hx8.below (HB6.out.trans (hb7.mono (show H ≤ w6.heap.size by omega))) (fun k hk h => by omega) (by have := HB6.out.size; have := HHH.out; have := hb7.size; omega)
            obtain ⟨v8, hv8⟩ : ∃ v8, (first.set a xw)[0]? = some v8 := ⟨_, List.getElem?_eq_getElem (by rw [List.length_set]; exact hnl.1)⟩
            have hwds : (wds first).set a (.int .u64 xw) = wds (first.set a xw) := by simp [wds, List.map_set]
            rw [hwds] at hown8
            have h8 : (w7.setCell ⟨gl, a, none⟩ (.int .u64 xw)).cell? ⟨K + 3, 0, none⟩ = some (.int .i64 0) := he8.h
            have x8 : (w7.setCell ⟨gl, a, none⟩ (.int .u64 xw)).cell? ⟨H + 1, 4, none⟩ = some (.int .u64 xp) := he8.x 4 (by omega)
            have s8 : (w7.setCell ⟨gl, a, none⟩ (.int .u64 xw)).cell? ⟨gl, 0, none⟩ = some (.int .u64 v8) := by rw [hown8.cellAt 0 (by omega), wds, List.getElem?_map, hv8]; rfl
            have z8 : (w7.setCell ⟨gl, a, none⟩ (.int .u64 xw)).frozen? ⟨gl, 0, none⟩ = false := hown8.frozenAt 0
            have p3 : (0 : Int) < (first.length : Int) := by omega
            have hown9 := (World.ownsRow.stored hown8 0 (.int .u64 xp)).1
            have hwds2 : (wds (first.set a xw)).set 0 (.int .u64 xp) = wds ((first.set a xw).set 0 xp) := by simp [wds, List.map_set]
            rw [hwds2] at hown9
            have hx9 : Ex (w7.setCell ⟨gl, a, none⟩ (.int .u64 xw)) ((w7.setCell ⟨gl, a, none⟩ (.int .u64 xw)).setCell ⟨gl, 0, none⟩ (.int .u64 xp)) (fun q => q = gl) := (Ex.refl _ (fun q => q = gl)).set ⟨gl, 0, none⟩ _ fun _ => rfl
            have he9 := he8.ex hx9 (fun k hk => by subst hk; refine ⟨by show H ≤ _; omega, fun hh => ?_⟩; have := hlk _ hh; omega)
            have hm9 := hm8.ex hx9 (by omega) (by omega) (by omega) (by omega) (by omega)
            have hb9 := hx9.below hb8 (fun k hk h => by omega) (by have := hb8.size; have := HHH.out; omega)
            obtain ⟨w9, hw9⟩ : ∃ w9, w9 = (w7.setCell ⟨gl, a, none⟩ (.int .u64 xw)).setCell ⟨gl, 0, none⟩ (.int .u64 xp) := ⟨_, rfl⟩
            have g9 : ((w7.setCell ⟨gl, a, none⟩ (.int .u64 xw)).setCell ⟨gl, 0, none⟩ (.int .u64 xp)).cell? ⟨K + 2, 0, none⟩ = some (.bool false) := he9.g
            have fi9 : ((w7.setCell ⟨gl, a, none⟩ (.int .u64 xw)).setCell ⟨gl, 0, none⟩ (.int .u64 xp)).cell? ⟨K + 5, 0, none⟩ = some (.bool true) := he9.fi.1
            have c9 : ((w7.setCell ⟨gl, a, none⟩ (.int .u64 xw)).setCell ⟨gl, 0, none⟩ (.int .u64 xp)).cell? ⟨K + 4, 0, none⟩ = some (.int .i64 1) := he9.c.1
            rw [← hw9] at hown9 hm9 hb9 he9
            have HOW9 := Lib.hid hown9
            have HM9 := Lib.hid hm9
            have HB9 := Lib.hid hb9
            have HE9 := Lib.hid he9
            have HW9 := Lib.hid hw9
            clear hown7 hgr7 hnil7 hbgl hgl hb7 hlk he7 hm7 hown8 hx8 he8 hm8 hb8 hw9 hwds hwds2 hown9 hx9 he9 hm9 hb9 hml hv7 hv8 f6 HB6 HE6 HM6 HWA HBA HSA HRA HOA
            rw [Nat.zero_add]
            have H8 := Lib.hid (num8 w9 0)
            have hwd := memWords w9 HM9.out (.inr (.inr rfl)) (by rw [List.length_set, List.length_set]; omega)
            rw [List.length_set, List.length_set] at hwd
            have HWD := Lib.hid hwd
            have HNU := Lib.hid (memNumber w9 HM9.out (.inr (.inr rfl)))
            have m9 : w9.cell? ⟨K, 0, none⟩ = some (.pointer (some ⟨m, 0, none⟩)) := HE9.out.m
            clear hwd HM9 HE9
            go_wp2_with (go_at_call 8; refine halt_ ?_)
            refine Halt_.go ?_
            rw [← HW9.out]
            refine H8.out.mono ?_
            rintro e w' ⟨rfl, rfl⟩
            clear H8 a7 x7 s7 z7 h8 x8 s8 z8 g9 fi9 c9 HW9
            go_wp2_with (go_at_call 13; refine halt_ ?_)
            refine Halt_.go ?_
            refine HNU.out.mono ?_
            rintro e w'' ⟨rfl, rfl⟩
            clear HNU
            go_wp2_with (go_at_call 12; refine halt_ ?_)
            refine Halt_.go ?_
            refine HWD.out.mono ?_
            rintro e wB ⟨AB, cB, rfl, hownB, hbB⟩
            have hkw := kitWords wB AB (some ⟨gl, 0, none⟩) cB cl ((first.set a xw).set 0 xp) ((first.set a xw).set 0 xp) (RK.of_own (by rw [List.length_set, List.length_set]; exact hownB)) (RK.of_own (by rw [List.length_set, List.length_set]; exact own_below HOW9.out hbB)) (by rw [List.length_set, List.length_set]; omega)
            rw [List.length_set, List.length_set] at hkw
            have HKW := Lib.hid hkw
            have HBB := Lib.hid (HB9.out.trans (hbB.mono (show H ≤ w''.heap.size by have := HB9.out.size; have := HHH.out; omega)))
            clear hkw hownB hbB HWD HOW9
            go_wp2_with (go_at_call 11; refine halt_ ?_)
            refine Halt_.go ?_
            refine HKW.out.mono ?_
            rintro e wC ⟨rfl, hb10⟩
            have hb10' := HBB.out.trans (hb10.mono (show H ≤ wB.heap.size by have := HBB.out.size; have := HHH.out; omega))
            have HWK := Lib.hid (works wC (HD.out.below hb10' h1) (by have := hb10'.size; have := HHH.out; omega))
            have HB10 := Lib.hid hb10'
            clear hb10 hb10' HKW HBB
            simp only [decide_true]
            go_wp2_with (go_at_call 4; refine halt_ ?_)
            refine Halt_.go ?_
            refine HWK.out.mono ?_
            rintro e w11 ⟨rfl, hb11⟩
            have HB11 := Lib.hid (HB10.out.trans (hb11.mono (by have := HB10.out.size; have := HHH.out; omega)))
            clear hb11 HWK HB10
            go_wp2
            go_ret
            exact ⟨rfl, HB11.out⟩
        · subst e
          go_wp2_with (go_at_call 6; refine halt_ ?_)
          refine Halt_.go ?_
          obtain ⟨w5, hw5⟩ : ∃ w5, w5 = ((wr.alloc (.cells #[.int .i64 1] 3)).alloc (.cells #[.int .i64 0] 3)).alloc (.cells #[.bool true] 4) := ⟨_, rfl⟩
          have hsz := HSZ.out
          rw [← hw5, hsz, show K + 3 + 1 = K + 4 from rfl, show K + 4 + 1 = K + 5 from rfl]
          have hb5 : Below wr.heap.size wr w5 := by rw [hw5]; exact (((Below.refl _ wr).alloc (Nat.le_refl _) _).alloc (by simp) _).alloc (by simp; omega) _
          have hs5 : w5.heap.size = K + 6 := by rw [hw5]; simp [hsz]
          have u3 : w5.heap[K + 3]? = some (.cells #[.int .i64 1] 3 (0, 0)) := by rw [hw5]; exact (Go.heap_alloc_old _ _ (by simp; omega)).trans ((Go.heap_alloc_old _ _ (by simp; omega)).trans (heap_at _ _ _ hsz))
          have u4 : w5.heap[K + 4]? = some (.cells #[.int .i64 0] 3 (0, 0)) := by rw [hw5]; exact (Go.heap_alloc_old _ _ (by simp; omega)).trans (heap_at _ _ _ (by simp [hsz]))
          have u5 : w5.heap[K + 5]? = some (.cells #[.bool true] 4 (0, 0)) := by rw [hw5]; exact heap_at _ _ _ (by simp [hsz])
          have he := env_of HPr.out (.func (.func 7) #[] #[.pointer (some ⟨K + 4, 0, none⟩), .pointer (some ⟨H + 1, 0, none⟩), .pointer (some ⟨H + 2, 0, none⟩), .pointer (some ⟨H, 0, none⟩), .pointer (some ⟨K + 1, 0, none⟩), .pointer (some ⟨K + 5, 0, none⟩), .pointer (some ⟨K, 0, none⟩), .pointer (some ⟨K + 3, 0, none⟩), .pointer (some ⟨K + 2, 0, none⟩)]) 1 hb5 (by rw [hs5, HXX.out]) (by rw [HXX.out]; exact cell_of_row w5 _ 0 _ _ _ u3) (by rw [HXX.out]; exact u4) (by rw [HXX.out]; exact u5)
          have hm5 := HMr.out.ex (Ex.of_below hb5) (S := fun _ => False) id id id id id
          have hd5 : Deb w5 := (HD.out.below HBr.out h1).below hb5 (by omega)
          rw [HXX.out] at he
          have hal : a < first.length := by rw [← HNN.out]; exact han
          have hnl : 0 < first.length ∧ first.length ≤ 20 := by rw [← HNN.out]; exact hn
          have HAT := Lib.hid (atomically7 (X := (⟨H, K, m, A, B, c, d, first, gets, xa, xw, xp, xh, more, a, 1, true, .func (.func 7) #[] #[.pointer (some ⟨K + 4, 0, none⟩), .pointer (some ⟨H + 1, 0, none⟩), .pointer (some ⟨H + 2, 0, none⟩), .pointer (some ⟨H, 0, none⟩), .pointer (some ⟨K + 1, 0, none⟩), .pointer (some ⟨K + 5, 0, none⟩), .pointer (some ⟨K, 0, none⟩), .pointer (some ⟨K + 3, 0, none⟩), .pointer (some ⟨K + 2, 0, none⟩)]⟩ : NX)) w5 (show K + 6 = w5.heap.size by omega) he rfl hm5 HLI.out.1 hd5 h1 hnl hal hg (HCG.out.trans (chg_oth (⟨H, K, m, A, B, c, d, first, gets, xa, xw, xp, xh, more, a, 1, true, .func (.func 7) #[] #[.pointer (some ⟨K + 4, 0, none⟩), .pointer (some ⟨H + 1, 0, none⟩), .pointer (some ⟨H + 2, 0, none⟩), .pointer (some ⟨H, 0, none⟩), .pointer (some ⟨K + 1, 0, none⟩), .pointer (some ⟨K + 5, 0, none⟩), .pointer (some ⟨K, 0, none⟩), .pointer (some ⟨K + 3, 0, none⟩), .pointer (some ⟨K + 2, 0, none⟩)]⟩ : NX) hnl.1 hal)) (by show ((1 : Int) = 1 → true = true); intro hh; first | rfl | (exfalso; omega)))
          have HB5 := Lib.hid (HBr.out.trans (hb5.mono (show H ≤ wr.heap.size by rw [hsz]; omega)))
          clear hb5 u3 u4 u5 he hm5 hd5 hw5 hs5 x0 x5 g0 g0a m0 m0a hsz r1 r2 r3 hq1 hmf
          refine HAT.out.mono ?_
          rintro e w6 ⟨hb6, ch6, h6⟩
          rcases h6 with ⟨q1, rfl, he6, hm6⟩ | ⟨q1, rfl, he6, hm6⟩
          · exact absurd q1 (by show ¬ (1 : Int) = 2; decide)
          · have hb6' := HB5.out.trans hb6
            have hs6 : K + 6 < w6.heap.size := he6.size
            obtain ⟨w6a, hw6a⟩ : ∃ w6a, w6a = w6.alloc (.cells #[] 23) := ⟨_, rfl⟩
            have hba : Below w6.heap.size w6 w6a := by rw [hw6a]; exact (Below.refl _ w6).alloc (Nat.le_refl _) _
            have hsa : w6a.heap.size = w6.heap.size + 1 := by rw [hw6a]; simp
            have hra : RK .u64 w6a H A first := he6.rf.below (hba.mono (show H ≤ w6.heap.size by omega))
            have hoa : w6a.ownsRow w6.heap.size 23 1 (.slice (some ⟨w6.heap.size, 0, none⟩) 0 0) 0 [] := ⟨rfl, .inr ⟨w6.heap.size, 0, #[], rfl, Nat.le_refl _, by rw [hw6a]; exact heap_at _ _ _ rfl, Nat.le_refl _, by decide, rfl, rfl⟩⟩
            have f6 : (w6.alloc (.cells #[] 23)).cell? ⟨H, 0, none⟩ = some (.slice A first.length c) := cell_alloc he6.f
            have HB6 := Lib.hid hb6'
            have HE6 := Lib.hid he6
            have HM6 := Lib.hid hm6
            have HWA := Lib.hid hw6a
            have HBA := Lib.hid hba
            have HSA := Lib.hid hsa
            have HRA := Lib.hid hra
            have HOA := Lib.hid hoa
            clear q1 he6 hm6 hb6 hb6' HAT HB5 hw6a hba hsa hra hoa
            go_wp2_with (at_builtin; refine halt_ ?_)
            refine Halt_.go ?_
            rw [← HWA.out]
            refine wl_append_src _ (by rfl) (.tmp 94) (.tmp 95) 22 (by rfl) w6.heap.size 23 _ 1 8 info23 Tryz.underlying22 rfl (by decide) (.slice (some ⟨w6.heap.size, 0, none⟩) 0 0) 0 [] (by rfl) HOA.out A first.length c (wds first) (by rfl) (by simp [wds]) (fun hA => HRA.out.none_ hA) HRA.out.cells (fun u hu => by obtain ⟨y, _, rfl⟩ := List.mem_map.1 hu; rfl) (by omega) (by omega) (by have := HSA.out; omega) ?_
            intro A1 cl w7 hown7 hgr7 hnil7
            simp only [Nat.zero_add, List.nil_append] at hown7
            obtain ⟨gl, cl', hvL, hbgl, hgl⟩ := hown7.form hnl.1
            injection hvL with hA1 _ hcl
            subst hA1 hcl
            have hb7 : Below w6.heap.size w6 w7 := HBA.out.grown hgr7 (by have := HSA.out; omega) (fun q hq => by injection hq with hq; show w6.heap.size ≤ q; exact Nat.le_of_eq hq)
            have hlk := fun k hk => (show k < w6.heap.size by have h2 : k < K + 7 := (env_lt HE6.out hk).2; omega)
            have he7 := HE6.out.kept (fun k hk => hb7.block k (hlk k hk)) (fun k hk => hb7.block k (Nat.lt_trans hk (by show H < w6.heap.size; omega)))
            have hm7 := HM6.out.ex (Ex.of_below hb7) (S := fun _ => False) id id id id id
            have a7 : w7.cell? ⟨K + 1, 0, none⟩ = some (.int .u64 a) := he7.a
            have x7 : w7.cell? ⟨H + 1, 2, none⟩ = some (.int .u64 xw) := he7.x 2 (by omega)
            have p1 : (0 : Int) ≤ (a : Int) := by omega
            have p2 : (a : Int) < (first.length : Int) := by omega
            obtain ⟨v7, hv7⟩ : ∃ v7, first[a]? = some v7 := ⟨_, List.getElem?_eq_getElem hal⟩
            have s7 : w7.cell? ⟨gl, a, none⟩ = some (.int .u64 v7) := by rw [hown7.cellAt a (by omega)]; simp [wds, hv7]
            have z7 : w7.frozen? ⟨gl, a, none⟩ = false := hown7.frozenAt a
            have hown8 := (World.ownsRow.stored hown7 a (.int .u64 xw)).1
            have hx8 : Ex w7 (w7.setCell ⟨gl, a, none⟩ (.int .u64 xw)) (fun q => q = gl) := (Ex.refl w7 (fun q => q = gl)).set ⟨gl, a, none⟩ _ fun _ => rfl
            have he8 := he7.ex hx8 (fun k hk => by subst hk; refine ⟨by show H ≤ _; omega, fun hh => ?_⟩; have := hlk _ hh; omega)
            have hml : (m < gl ∧ cb < gl ∧ g < gl ∧ sc < gl ∧ ch6 < gl) := by have l1 := HM6.out.blk.lt; have l2 := HM6.out.cel.lt; have l3 := HM6.out.lch; omega
            have hm8 := hm7.ex hx8 (by omega) (by omega) (by omega) (by omega) (by omega)
            have hb8 := hx8.below (HB6.out.trans (hb7.mono (show H ≤ w6.heap.size by omega))) (fun k hk h => by omega) (by have := HB6.out.size; have := HHH.out; have := hb7.size; omega)
            obtain ⟨v8, hv8⟩ : ∃ v8, (first.set a xw)[0]? = some v8 := ⟨_, List.getElem?_eq_getElem (by rw [List.length_set]; exact hnl.1)⟩
            have hwds : (wds first).set a (.int .u64 xw) = wds (first.set a xw) := by simp [wds, List.map_set]
            rw [hwds] at hown8
            have h8 : (w7.setCell ⟨gl, a, none⟩ (.int .u64 xw)).cell? ⟨K + 3, 0, none⟩ = some (.int .i64 1) := he8.h
            have x8 : (w7.setCell ⟨gl, a, none⟩ (.int .u64 xw)).cell? ⟨H + 1, 4, none⟩ = some (.int .u64 xp) := he8.x 4 (by omega)
            have s8 : (w7.setCell ⟨gl, a, none⟩ (.int .u64 xw)).cell? ⟨gl, 0, none⟩ = some (.int .u64 v8) := by rw [hown8.cellAt 0 (by omega), wds, List.getElem?_map, hv8]; rfl
            have z8 : (w7.setCell ⟨gl, a, none⟩ (.int .u64 xw)).frozen? ⟨gl, 0, none⟩ = false := hown8.frozenAt 0
            have p3 : (0 : Int) < (first.length : Int) := by omega
            have hown9 := (World.ownsRow.stored hown8 0 (.int .u64 xp)).1
            have hwds2 : (wds (first.set a xw)).set 0 (.int .u64 xp) = wds ((first.set a xw).set 0 xp) := by simp [wds, List.map_set]
            rw [hwds2] at hown9
            have hx9 : Ex (w7.setCell ⟨gl, a, none⟩ (.int .u64 xw)) ((w7.setCell ⟨gl, a, none⟩ (.int .u64 xw)).setCell ⟨gl, 0, none⟩ (.int .u64 xp)) (fun q => q = gl) := (Ex.refl _ (fun q => q = gl)).set ⟨gl, 0, none⟩ _ fun _ => rfl
            have he9 := he8.ex hx9 (fun k hk => by subst hk; refine ⟨by show H ≤ _; omega, fun hh => ?_⟩; have := hlk _ hh; omega)
            have hm9 := hm8.ex hx9 (by omega) (by omega) (by omega) (by omega) (by omega)
            have hb9 := hx9.below hb8 (fun k hk h => by omega) (by have := hb8.size; have := HHH.out; omega)
            obtain ⟨w9, hw9⟩ : ∃ w9, w9 = (w7.setCell ⟨gl, a, none⟩ (.int .u64 xw)).setCell ⟨gl, 0, none⟩ (.int .u64 xp) := ⟨_, rfl⟩
            have g9 : ((w7.setCell ⟨gl, a, none⟩ (.int .u64 xw)).setCell ⟨gl, 0, none⟩ (.int .u64 xp)).cell? ⟨K + 2, 0, none⟩ = some (.bool true) := he9.g
            have fi9 : ((w7.setCell ⟨gl, a, none⟩ (.int .u64 xw)).setCell ⟨gl, 0, none⟩ (.int .u64 xp)).cell? ⟨K + 5, 0, none⟩ = some (.bool true) := he9.fi.1
            have c9 : ((w7.setCell ⟨gl, a, none⟩ (.int .u64 xw)).setCell ⟨gl, 0, none⟩ (.int .u64 xp)).cell? ⟨K + 4, 0, none⟩ = some (.int .i64 2) := he9.c.1
            rw [← hw9] at hown9 hm9 hb9 he9
            have HOW9 := Lib.hid hown9
            have HM9 := Lib.hid hm9
            have HB9 := Lib.hid hb9
            have HE9 := Lib.hid he9
            have HW9 := Lib.hid hw9
            clear hown7 hgr7 hnil7 hbgl hgl hb7 hlk he7 hm7 hown8 hx8 he8 hm8 hb8 hw9 hwds hwds2 hown9 hx9 he9 hm9 hb9 hml hv7 hv8 f6 HB6 HE6 HM6 HWA HBA HSA HRA HOA
            rw [Nat.zero_add]
            have H8 := Lib.hid (num8 w9 0)
            have hwd := memWords w9 HM9.out (.inr (.inr rfl)) (by rw [List.length_set, List.length_set]; omega)
            rw [List.length_set, List.length_set] at hwd
            have HWD := Lib.hid hwd
            have HNU := Lib.hid (memNumber w9 HM9.out (.inr (.inr rfl)))
            have m9 : w9.cell? ⟨K, 0, none⟩ = some (.pointer (some ⟨m, 0, none⟩)) := HE9.out.m
            clear hwd HM9 HE9
            go_wp2_with (go_at_call 8; refine halt_ ?_)
            refine Halt_.go ?_
            rw [← HW9.out]
            refine H8.out.mono ?_
            rintro e w' ⟨rfl, rfl⟩
            clear H8 a7 x7 s7 z7 h8 x8 s8 z8 g9 fi9 c9 HW9
            go_wp2_with (go_at_call 13; refine halt_ ?_)
            refine Halt_.go ?_
            refine HNU.out.mono ?_
            rintro e w'' ⟨rfl, rfl⟩
            clear HNU
            go_wp2_with (go_at_call 12; refine halt_ ?_)
            refine Halt_.go ?_
            refine HWD.out.mono ?_
            rintro e wB ⟨AB, cB, rfl, hownB, hbB⟩
            have hkw := kitWords wB AB (some ⟨gl, 0, none⟩) cB cl ((first.set a xw).set 0 xp) ((first.set a xw).set 0 xp) (RK.of_own (by rw [List.length_set, List.length_set]; exact hownB)) (RK.of_own (by rw [List.length_set, List.length_set]; exact own_below HOW9.out hbB)) (by rw [List.length_set, List.length_set]; omega)
            rw [List.length_set, List.length_set] at hkw
            have HKW := Lib.hid hkw
            have HBB := Lib.hid (HB9.out.trans (hbB.mono (show H ≤ w''.heap.size by have := HB9.out.size; have := HHH.out; omega)))
            clear hkw hownB hbB HWD HOW9
            go_wp2_with (go_at_call 11; refine halt_ ?_)
            refine Halt_.go ?_
            refine HKW.out.mono ?_
            rintro e wC ⟨rfl, hb10⟩
            have hb10' := HBB.out.trans (hb10.mono (show H ≤ wB.heap.size by have := HBB.out.size; have := HHH.out; omega))
            have HWK := Lib.hid (works wC (HD.out.below hb10' h1) (by have := hb10'.size; have := HHH.out; omega))
            have HB10 := Lib.hid hb10'
            clear hb10 hb10' HKW HBB
            simp only [decide_true]
            go_wp2_with (go_at_call 4; refine halt_ ?_)
            refine Halt_.go ?_
            refine HWK.out.mono ?_
            rintro e w11 ⟨rfl, hb11⟩
            have HB11 := Lib.hid (HB10.out.trans (hb11.mono (by have := HB10.out.size; have := HHH.out; omega)))
            clear hb11 HWK HB10
            go_wp2
            go_ret
            exact ⟨rfl, HB11.out⟩
      · subst e
        go_wp2_with (go_at_call 6; refine halt_ ?_)
        refine Halt_.go ?_
        obtain ⟨w5, hw5⟩ : ∃ w5, w5 = ((wr.alloc (.cells #[.int .i64 2] 3)).alloc (.cells #[.int .i64 0] 3)).alloc (.cells #[.bool true] 4) := ⟨_, rfl⟩
        have hsz := HSZ.out
        rw [← hw5, hsz, show K + 3 + 1 = K + 4 from rfl, show K + 4 + 1 = K + 5 from rfl]
        have hb5 : Below wr.heap.size wr w5 := by rw [hw5]; exact (((Below.refl _ wr).alloc (Nat.le_refl _) _).alloc (by simp) _).alloc (by simp; omega) _
        have hs5 : w5.heap.size = K + 6 := by rw [hw5]; simp [hsz]
        have u3 : w5.heap[K + 3]? = some (.cells #[.int .i64 2] 3 (0, 0)) := by rw [hw5]; exact (Go.heap_alloc_old _ _ (by simp; omega)).trans ((Go.heap_alloc_old _ _ (by simp; omega)).trans (heap_at _ _ _ hsz))
        have u4 : w5.heap[K + 4]? = some (.cells #[.int .i64 0] 3 (0, 0)) := by rw [hw5]; exact (Go.heap_alloc_old _ _ (by simp; omega)).trans (heap_at _ _ _ (by simp [hsz]))
        have u5 : w5.heap[K + 5]? = some (.cells #[.bool true] 4 (0, 0)) := by rw [hw5]; exact heap_at _ _ _ (by simp [hsz])
        have he := env_of HPr.out (.func (.func 7) #[] #[.pointer (some ⟨K + 4, 0, none⟩), .pointer (some ⟨H + 1, 0, none⟩), .pointer (some ⟨H + 2, 0, none⟩), .pointer (some ⟨H, 0, none⟩), .pointer (some ⟨K + 1, 0, none⟩), .pointer (some ⟨K + 5, 0, none⟩), .pointer (some ⟨K, 0, none⟩), .pointer (some ⟨K + 3, 0, none⟩), .pointer (some ⟨K + 2, 0, none⟩)]) 2 hb5 (by rw [hs5, HXX.out]) (by rw [HXX.out]; exact cell_of_row w5 _ 0 _ _ _ u3) (by rw [HXX.out]; exact u4) (by rw [HXX.out]; exact u5)
        have hm5 := HMr.out.ex (Ex.of_below hb5) (S := fun _ => False) id id id id id
        have hd5 : Deb w5 := (HD.out.below HBr.out h1).below hb5 (by omega)
        rw [HXX.out] at he
        have hal : a < first.length := by rw [← HNN.out]; exact han
        have hnl : 0 < first.length ∧ first.length ≤ 20 := by rw [← HNN.out]; exact hn
        have HAT := Lib.hid (atomically7 (X := (⟨H, K, m, A, B, c, d, first, gets, xa, xw, xp, xh, more, a, 2, cg, .func (.func 7) #[] #[.pointer (some ⟨K + 4, 0, none⟩), .pointer (some ⟨H + 1, 0, none⟩), .pointer (some ⟨H + 2, 0, none⟩), .pointer (some ⟨H, 0, none⟩), .pointer (some ⟨K + 1, 0, none⟩), .pointer (some ⟨K + 5, 0, none⟩), .pointer (some ⟨K, 0, none⟩), .pointer (some ⟨K + 3, 0, none⟩), .pointer (some ⟨K + 2, 0, none⟩)]⟩ : NX)) w5 (show K + 6 = w5.heap.size by omega) he rfl hm5 HLI.out.1 hd5 h1 hnl hal hg (HCG.out.trans (chg_oth (⟨H, K, m, A, B, c, d, first, gets, xa, xw, xp, xh, more, a, 2, cg, .func (.func 7) #[] #[.pointer (some ⟨K + 4, 0, none⟩), .pointer (some ⟨H + 1, 0, none⟩), .pointer (some ⟨H + 2, 0, none⟩), .pointer (some ⟨H, 0, none⟩), .pointer (some ⟨K + 1, 0, none⟩), .pointer (some ⟨K + 5, 0, none⟩), .pointer (some ⟨K, 0, none⟩), .pointer (some ⟨K + 3, 0, none⟩), .pointer (some ⟨K + 2, 0, none⟩)]⟩ : NX) hnl.1 hal)) (by show ((2 : Int) = 1 → cg = true); intro hh; first | rfl | (exfalso; omega)))
        have HB5 := Lib.hid (HBr.out.trans (hb5.mono (show H ≤ wr.heap.size by rw [hsz]; omega)))
        clear hb5 u3 u4 u5 he hm5 hd5 hw5 hs5 x0 x5 g0 g0a m0 m0a hsz r1 r2 r3 hq1 hmf
        refine HAT.out.mono ?_
        rintro e w6 ⟨hb6, ch6, h6⟩
        rcases h6 with ⟨q1, rfl, he6, hm6⟩ | ⟨q1, rfl, he6, hm6⟩
        · have hb6' := HB5.out.trans hb6
          have hs6 : K + 6 < w6.heap.size := he6.size
          obtain ⟨w6a, hw6a⟩ : ∃ w6a, w6a = w6.alloc (.cells #[] 23) := ⟨_, rfl⟩
          have hba : Below w6.heap.size w6 w6a := by rw [hw6a]; exact (Below.refl _ w6).alloc (Nat.le_refl _) _
          have hsa : w6a.heap.size = w6.heap.size + 1 := by rw [hw6a]; simp
          have hra : RK .u64 w6a H A first := he6.rf.below (hba.mono (show H ≤ w6.heap.size by omega))
          have hoa : w6a.ownsRow w6.heap.size 23 1 (.slice (some ⟨w6.heap.size, 0, none⟩) 0 0) 0 [] := ⟨rfl, .inr ⟨w6.heap.size, 0, #[], rfl, Nat.le_refl _, by rw [hw6a]; exact heap_at _ _ _ rfl, Nat.le_refl _, by decide, rfl, rfl⟩⟩
          have f6 : (w6.alloc (.cells #[] 23)).cell? ⟨H, 0, none⟩ = some (.slice A first.length c) := cell_alloc he6.f
          have HB6 := Lib.hid hb6'
          have HE6 := Lib.hid he6
          have HM6 := Lib.hid hm6
          have HWA := Lib.hid hw6a
          have HBA := Lib.hid hba
          have HSA := Lib.hid hsa
          have HRA := Lib.hid hra
          have HOA := Lib.hid hoa
          clear q1 he6 hm6 hb6 hb6' HAT HB5 hw6a hba hsa hra hoa
          go_wp2_with (at_builtin; refine halt_ ?_)
          refine Halt_.go ?_
          rw [← HWA.out]
          refine wl_append_src _ (by rfl) (.tmp 94) (.tmp 95) 22 (by rfl) w6.heap.size 23 _ 1 8 info23 Tryz.underlying22 rfl (by decide) (.slice (some ⟨w6.heap.size, 0, none⟩) 0 0) 0 [] (by rfl) HOA.out A first.length c (wds first) (by rfl) (by simp [wds]) (fun hA => HRA.out.none_ hA) HRA.out.cells (fun u hu => by obtain ⟨y, _, rfl⟩ := List.mem_map.1 hu; rfl) (by omega) (by omega) (by have := HSA.out; omega) ?_
          intro A1 cl w7 hown7 hgr7 hnil7
          simp only [Nat.zero_add, List.nil_append] at hown7
          obtain ⟨gl, cl', hvL, hbgl, hgl⟩ := hown7.form hnl.1
          injection hvL with hA1 _ hcl
          subst hA1 hcl
          have hb7 : Below w6.heap.size w6 w7 := HBA.out.grown hgr7 (by have := HSA.out; omega) (fun q hq => by injection hq with hq; show w6.heap.size ≤ q; exact Nat.le_of_eq hq)
          have hlk := fun k hk => (show k < w6.heap.size by have h2 : k < K + 7 := (env_lt HE6.out hk).2; omega)
          have he7 := HE6.out.kept (fun k hk => hb7.block k (hlk k hk)) (fun k hk => hb7.block k (Nat.lt_trans hk (by show H < w6.heap.size; omega)))
          have hm7 := HM6.out.ex (Ex.of_below hb7) (S := fun _ => False) id id id id id
          have a7 : w7.cell? ⟨K + 1, 0, none⟩ = some (.int .u64 a) := he7.a
          have x7 : w7.cell? ⟨H + 1, 2, none⟩ = some (.int .u64 xw) := he7.x 2 (by omega)
          have p1 : (0 : Int) ≤ (a : Int) := by omega
          have p2 : (a : Int) < (first.length : Int) := by omega
          obtain ⟨v7, hv7⟩ : ∃ v7, first[a]? = some v7 := ⟨_, List.getElem?_eq_getElem hal⟩
          have s7 : w7.cell? ⟨gl, a, none⟩ = some (.int .u64 v7) := by rw [hown7.cellAt a (by omega)]; simp [wds, hv7]
          have z7 : w7.frozen? ⟨gl, a, none⟩ = false := hown7.frozenAt a
          have hown8 := (World.ownsRow.stored hown7 a (.int .u64 xw)).1
          have hx8 : Ex w7 (w7.setCell ⟨gl, a, none⟩ (.int .u64 xw)) (fun q => q = gl) := (Ex.refl w7 (fun q => q = gl)).set ⟨gl, a, none⟩ _ fun _ => rfl
          have he8 := he7.ex hx8 (fun k hk => by subst hk; refine ⟨by show H ≤ _; omega, fun hh => ?_⟩; have := hlk _ hh; omega)
          have hml : (m < gl ∧ cb < gl ∧ g < gl ∧ sc < gl ∧ ch6 < gl) := by have l1 := HM6.out.blk.lt; have l2 := HM6.out.cel.lt; have l3 := HM6.out.lch; omega
          have hm8 := hm7.ex hx8 (by omega) (by omega) (by omega) (by omega) (by omega)
          have hb8 := hx8.below (HB6.out.trans (hb7.mono (show H ≤ w6.heap.size by omega))) (fun k hk h => by omega) (by have := HB6.out.size; have := HHH.out; have := hb7.size; omega)
          obtain ⟨w8, hw8⟩ : ∃ w8, w8 = w7.setCell ⟨gl, a, none⟩ (.int .u64 xw) := ⟨_, rfl⟩
          have h8 : (w7.setCell ⟨gl, a, none⟩ (.int .u64 xw)).cell? ⟨K + 3, 0, none⟩ = some (.int .i64 2) := he8.h
          have fi8 : (w7.setCell ⟨gl, a, none⟩ (.int .u64 xw)).cell? ⟨K + 5, 0, none⟩ = some (.bool true) := he8.fi.1
          have c8 : (w7.setCell ⟨gl, a, none⟩ (.int .u64 xw)).cell? ⟨K + 4, 0, none⟩ = some (.int .i64 1) := he8.c.1
          rw [← hw8] at hown8 hm8 hb8 he8
          have hwds : (wds first).set a (.int .u64 xw) = wds (first.set a xw) := by simp [wds, List.map_set]
          rw [hwds] at hown8
          have HOW8 := Lib.hid hown8
          have HM8 := Lib.hid hm8
          have HB8 := Lib.hid hb8
          have HE8 := Lib.hid he8
          have HW8 := Lib.hid hw8
          have hs8 : gl < w8.heap.size := by rw [hw8]; simpa using hgl
          have HS8 := Lib.hid hs8
          have HML := Lib.hid hml
          clear hown7 hgr7 hnil7 hbgl hgl hb7 hlk he7 hm7 hown8 hx8 he8 hm8 hb8 hw8 hwds hml hv7 hs8 f6 HB6 HE6 HM6 HWA HBA HSA HRA HOA
          rw [Nat.zero_add]
          have H8 := Lib.hid (num8 w8 391)
          have hwd := memWords w8 HM8.out (.inr (.inl rfl)) (by rw [List.length_set]; omega)
          rw [List.length_set] at hwd
          have HWD := Lib.hid hwd
          have m8 : w8.cell? ⟨K, 0, none⟩ = some (.pointer (some ⟨m, 0, none⟩)) := HE8.out.m
          clear hwd HM8 HE8
          go_wp2_with (go_at_call 8; refine halt_ ?_)
          refine Halt_.go ?_
          rw [← HW8.out]
          refine H8.out.mono ?_
          rintro e w' ⟨rfl, rfl⟩
          clear H8 a7 x7 s7 z7 h8 fi8 c8 HW8
          go_wp2_with (go_at_call 12; refine halt_ ?_)
          refine Halt_.go ?_
          refine HWD.out.mono ?_
          rintro e w9 ⟨A9, c9, rfl, hown9, hb9⟩
          have hkw := kitWords w9 A9 (some ⟨gl, 0, none⟩) c9 cl (first.set a xw) (first.set a xw) (RK.of_own (by rw [List.length_set]; exact hown9)) (RK.of_own (by rw [List.length_set]; exact own_below HOW8.out hb9)) (by rw [List.length_set]; omega)
          rw [List.length_set] at hkw
          have HKW := Lib.hid hkw
          have HB9 := Lib.hid (HB8.out.trans (hb9.mono (show H ≤ w'.heap.size by have := HB8.out.size; have := HHH.out; omega)))
          clear hkw hown9 hb9 HWD HOW8
          go_wp2_with (go_at_call 11; refine halt_ ?_)
          refine Halt_.go ?_
          refine HKW.out.mono ?_
          rintro e w10 ⟨rfl, hb10⟩
          have hb10' := HB9.out.trans (hb10.mono (show H ≤ w9.heap.size by have := HB9.out.size; have := HHH.out; omega))
          have HWK := Lib.hid (works w10 (HD.out.below hb10' h1) (by have := hb10'.size; have := HHH.out; omega))
          have HB10 := Lib.hid hb10'
          clear hb10 hb10' HKW HB9
          simp only [decide_true]
          go_wp2_with (go_at_call 4; refine halt_ ?_)
          refine Halt_.go ?_
          refine HWK.out.mono ?_
          rintro e w11 ⟨rfl, hb11⟩
          have HB11 := Lib.hid (HB10.out.trans (hb11.mono (by have := HB10.out.size; have := HHH.out; omega)))
          clear hb11 HWK HB10
          go_wp2
          go_ret
          exact ⟨rfl, HB11.out⟩
        · exact absurd rfl q1
end Go.Proofs.YtomcobcmjocapaaGreatDoor
