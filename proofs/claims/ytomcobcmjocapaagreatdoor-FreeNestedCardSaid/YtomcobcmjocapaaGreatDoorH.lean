/- The table's Put, of a table without keys. -/
import Derived.Test.YtomcobcmjocapaaGreatDoorG
import Derived.Test.YtomcobcmjocapaaGreatDoorR0
import Derived.StillTailTactics
import Derived.Deep.Cut
namespace Go.Proofs.YtomcobcmjocapaaGreatDoor
open Go.RowKit
theorem info23 : (Tryz.prog.info? 23).map (fun i => (i.zero, i.size, i.bytes)) = some (some (.int .u64 0), 1, 8) := by kernel_rfl
theorem info102 : (Tryz.prog.info? 102).map (fun i => (i.zero, i.size, i.bytes)) = some (some (.agg #[.int .u64 0, .int .u64 0]), 2, 16) := by kernel_rfl
theorem info120 : (Tryz.prog.info? 120).map (fun i => (i.zero, i.size, i.bytes)) = some (some (.agg #[.int .i64 0, .int .u64 0, .bool false]), 3, 24) := by kernel_rfl
theorem slot_set (a : Int) {j : Nat} (hj : j < 8) (h : hmI a = (j : Int)) :
    (((slotL none).set (j * 3) (.bool true)).set (j * 3 + 1) (.int .u64 a)).set (j * 3 + 2) (.int .i64 0) = slotL (some a) := by
  have hh : ∀ i : Nat, ((some a).map hmI = some (i : Int)) ↔ i = j := fun i => by simp [h]; omega
  have : j = 0 ∨ j = 1 ∨ j = 2 ∨ j = 3 ∨ j = 4 ∨ j = 5 ∨ j = 6 ∨ j = 7 := by omega
  unfold slotL slotV
  simp only [hh]
  rcases this with rfl | rfl | rfl | rfl | rfl | rfl | rfl | rfl <;> rfl
theorem own_apart {w : World} {lo lo' E E' s s' n n' : Nat} {v v' : Value} {xs xs' : List Value} (h : w.ownsRow lo E s v n xs) (h' : w.ownsRow lo' E' s' v' n' xs') (he : E ≠ E') {k : Nat} (hk : v.ownBlock = some k) : v'.ownBlock ≠ some k := by
  rcases (show _ ∨ _ from h.2) with ⟨rfl, _⟩ | ⟨g0, cap', cur, rfl, hbg, hh, h3⟩
  · cases hk
  · obtain rfl : g0 = k := by injection hk
    exact own_ne_blk h' hh (fun e => he e.symm)
section
variable {w w' : World} {lo tb sg : Nat} {vK : Value}
set_option linter.unusedSimpArgs false in
set_option maxRecDepth 100000 in
set_option maxHeartbeats 6400000 in
theorem tabPut (w : World) (h : TabR w lo tb sg vK none) (hd : Deb w) (a : Nat) :
    Calls Tryz.prog 120 #[.pointer (some ⟨tb, 0, none⟩), .int .u64 a, .int .i64 0] w fun e w' => e = .returned (.tuple #[.int .i64 0, .bool false, .int .i64 0]) ∧ ∃ vK', TabR w' lo tb sg vK' (some (a : Int)) ∧ (vK'.ownBlock = vK.ownBlock ∨ ∃ g, vK'.ownBlock = some g ∧ w.heap.size ≤ g) ∧ Ex w w' (fun k => k = tb ∨ k = sg ∨ vK.ownBlock = some k) := by
  obtain ⟨j, hj⟩ := Int.eq_ofNat_of_zero_le (hm_lt a).1
  have hj8 : j < 8 := by have := (hm_lt a).2; omega
  have hbx : Below w.heap.size w (w.alloc (.cells #[.pointer (some ⟨tb, 0, none⟩)] 113)) := (Below.refl _ _).alloc (Nat.le_refl _) _
  obtain ⟨w1, hw1⟩ : ∃ w1, w1 = w.alloc (.cells #[.pointer (some ⟨tb, 0, none⟩)] 113) := ⟨_, rfl⟩
  rw [← hw1] at hbx
  have hex1 : Ex w w1 (fun k => k = tb ∨ k = sg ∨ vK.ownBlock = some k) := by rw [hw1]; exact (Ex.refl w _).alloc _
  have h1 : TabR w1 lo tb sg vK none := h.kept fun k _ hk => hbx.block k hk
  have hd1 : Deb w1 := by
    have hl : (1 : Nat) < w.heap.size := World.block_lt_of_cell? w ⟨1, 7, none⟩ hd
    exact (hbx.cell (p := ⟨1, 7, none⟩) hl).trans hd
  have bx0 : w1.cell? ⟨w.heap.size, 0, none⟩ = some (.pointer (some ⟨tb, 0, none⟩)) := by rw [hw1]; exact cell_of_row _ w.heap.size 0 _ _ _ (heap_at w _ _ rfl)
  have hs1 : w1.heap.size = w.heap.size + 1 := by rw [hw1]; simp
  have hbh1 : w1.heap[w.heap.size]? = some (.cells #[.pointer (some ⟨tb, 0, none⟩)] 113 (0, 0)) := by rw [hw1]; exact heap_at w _ _ rfl
  have HM := Lib.hid (tabMade w1 h1)
  have HT := Lib.hid (tabLook w1 h1 hd1 a (.inl rfl))
  rw [hj] at HT
  have c0 := h1.c0.1
  have HK := Lib.hid (show w1.ownsRow lo 23 1 vK 0 [] from h1.keys)
  have hlw := h.lt
  obtain ⟨Ak, ck, hvK⟩ : ∃ A c, vK = .slice A 0 c := own_shape (show w1.ownsRow lo 23 1 vK 0 [] from h1.keys)
  have c1 := h1.c1.1
  have s0 := h1.slot hj8 (t := 0) (by omega) (v := .bool false) rfl
  have s1 := h1.slot hj8 (t := 1) (by omega) (v := .int .u64 0) rfl
  have s2 := h1.slot hj8 (t := 2) (by omega) (v := .int .i64 0) rfl
  subst hvK
  simp only [Nat.add_zero] at s0
  have i1 : (0 : Int) ≤ (j : Int) := by omega
  have i2 : (j : Int) < 8 := by omega
  have HW1 := Lib.hid hw1
  have HX1 := Lib.hid hex1
  have HH1 := Lib.hid h1
  have HJ := Lib.hid hj
  have HBH := Lib.hid hbh1
  clear hbh1
  clear h hd hj hbx hex1 h1 hd1 hw1
  go_enter Tryz.func120, Tryz.ntmps120
  go_wp2_with (go_at_call 85; refine halt_ ?_)
  refine Halt_.go ?_
  rw [← HW1.out]
  refine HM.out.mono ?_
  rintro e w' ⟨rfl, rfl⟩
  go_wp2_with (go_at_call 70; refine halt_ ?_)
  refine Halt_.go ?_
  refine HT.out.mono ?_
  rintro e w' ⟨rfl, rfl⟩
  clear HM HT
  go_wp2
  go_quiet (fail)
  have hdr : ∀ n : Nat, TabR (w'.drewN n) lo tb sg (.slice Ak 0 ck) none := fun n => HH1.out.kept fun _ _ _ => rfl
  have HH2 := Lib.hid (hdr nq)
  have HX2 := Lib.hid (HX1.out.drewN nq)
  replace bx0 : (w'.drewN nq).cell? ⟨w.heap.size, 0, none⟩ = some (.pointer (some ⟨tb, 0, none⟩)) := bx0
  replace hs1 : (w'.drewN nq).heap.size = w.heap.size + 1 := hs1
  have hbxh : (w'.drewN nq).heap[w.heap.size]? = some (.cells #[.pointer (some ⟨tb, 0, none⟩)] 113 (0, 0)) := HBH.out
  replace c0 : (w'.drewN nq).cell? ⟨tb, 0, none⟩ = some (.slice (some ⟨sg, 0, none⟩) 8 8) := c0
  replace c1 : (w'.drewN nq).cell? ⟨tb, 1, none⟩ = some (.slice Ak 0 ck) := c1
  replace s0 : (w'.drewN nq).cell? ⟨sg, j * 3, none⟩ = some (.bool false) ∧ (w'.drewN nq).frozen? ⟨sg, j * 3, none⟩ = false := s0
  replace s1 : (w'.drewN nq).cell? ⟨sg, j * 3 + 1, none⟩ = some (.int .u64 0) ∧ (w'.drewN nq).frozen? ⟨sg, j * 3 + 1, none⟩ = false := s1
  replace s2 : (w'.drewN nq).cell? ⟨sg, j * 3 + 2, none⟩ = some (.int .i64 0) ∧ (w'.drewN nq).frozen? ⟨sg, j * 3 + 2, none⟩ = false := s2
  replace HK : Hid ((w'.drewN nq).ownsRow lo 23 1 (.slice Ak 0 ck) 0 []) := HH2.out.keys
  clear hdr HW1 HX1 HH1
  generalize w'.drewN nq = w2 at *
  obtain ⟨s0, z0⟩ := s0
  obtain ⟨s1, z1⟩ := s1
  obtain ⟨s2, z2⟩ := s2
  go_wp2
  obtain ⟨w3, hw3⟩ : ∃ w3, w3 = ((w2.setCell ⟨sg, j * 3, none⟩ (.bool true)).setCell ⟨sg, j * 3 + 1, none⟩ (.int .u64 a)).setCell ⟨sg, j * 3 + 2, none⟩ (.int .i64 0) := ⟨_, rfl⟩
  rw [← hw3]
  have hblk := HH2.out.blk
  have hrow := HH2.out.row
  have hkey := HK.out
  have hlt := HH2.out.lt
  have hne : tb ≠ sg := fun e => blk_ne hblk hrow (by decide) e.symm
  have hb3 : ∀ k, k ≠ sg → w3.heap[k]? = w2.heap[k]? := fun k hk => by
    rw [hw3, Below.heap_setCell _ _ _ k hk, Below.heap_setCell _ _ _ k hk, Below.heap_setCell _ _ _ k hk]
  have hs3 : w3.heap.size = w2.heap.size := by rw [hw3]; simp
  have hrow3 : w3.ownsRow lo 138 3 (.slice (some ⟨sg, 0, none⟩) 8 8) 8 (slotL (some (a : Int))) := by
    have e1 := (World.ownsRow.stored hrow (j * 3) (.bool true)).1
    have e2 := (World.ownsRow.stored e1 (j * 3 + 1) (.int .u64 a)).1
    have e3 := (World.ownsRow.stored e2 (j * 3 + 2) (.int .i64 0)).1
    have e4 := slot_set (a : Int) hj8 HJ.out
    rw [e4] at e3
    rw [hw3]
    exact e3
  have hkeyne : (Value.slice Ak 0 ck).ownBlock ≠ some sg := own_apart hrow hkey (by decide) rfl
  have hkeytb : (Value.slice Ak 0 ck).ownBlock ≠ some tb := own_apart (show w2.ownsRow lo 134 2 (.slice (some ⟨tb, 0, none⟩) 1 1) 1 _ from hblk) hkey (by decide) rfl
  have hkey3 : w3.ownsRow lo 23 1 (.slice Ak 0 ck) 0 [] := own_keep hkey fun k hk => hb3 k fun e => hkeyne (by rw [← e]; exact hk)
  have hblk3 := hblk.kept (hb3 tb hne)
  have HX3 : Hid (Ex w w3 (fun k => k = tb ∨ k = sg ∨ (Value.slice Ak 0 ck).ownBlock = some k)) := by
    rw [hw3]
    exact (((HX2.out.set _ _ fun _ => .inr (.inl rfl)).set _ _ fun _ => .inr (.inl rfl)).set _ _ fun _ => .inr (.inl rfl))
  have b3 : w3.cell? ⟨w.heap.size, 0, none⟩ = some (.pointer (some ⟨tb, 0, none⟩)) := (World.cell?_of_block (hb3 w.heap.size (by omega))).trans bx0
  have d1 := hblk3.cell (j := 1) (by omega)
  have HROW := Lib.hid hkey3
  have HBLK := Lib.hid hblk3
  have HSL := Lib.hid hrow3
  have hS0 : Ex w3 w3.drew (fun k => (Value.slice Ak 0 ck).ownBlock = some k) := (Ex.refl _ _).drew
  have HS : Hid (∀ W, Ex w3 W (fun k => (Value.slice Ak 0 ck).ownBlock = some k) → W.cell? ⟨w.heap.size, 0, none⟩ = some (.pointer (some ⟨tb, 0, none⟩)) ∧ (W.cell? ⟨tb, 1, none⟩ = some (.slice Ak 0 ck) ∧ W.frozen? ⟨tb, 1, none⟩ = false) ∧ Ex w3 W (fun k => (Value.slice Ak 0 ck).ownBlock = some k)) := by
    intro W hx
    have h0 : (Value.slice Ak 0 ck).ownBlock ≠ some w.heap.size := fun e => by
      have := (World.ownsRow.lt HK.out _ e).2
      have h2 : w2.cell? ⟨w.heap.size, 0, none⟩ = some (.pointer (some ⟨tb, 0, none⟩)) := bx0
      have h3 := HX2.out.size
      exact own_ne_blk HK.out (hbxh) (by decide) e
    refine ⟨(hx.cell (p := ⟨w.heap.size, 0, none⟩) (show w.heap.size < w3.heap.size by omega) h0).trans b3, ?_, hx⟩
    have hb := (hblk3.kept (hx.block tb (by omega) hkeytb)).cell (j := 1) (by omega)
    exact hb
  have hSt := HS.out _ hS0
  have hlo3 : lo ≤ w3.heap.size := by omega
  have HSZ := Lib.hid (show w3.heap.size = w.heap.size + 1 by omega)
  clear hs1 hs3 hblk hrow hkey hlt hb3 hrow3 hkey3 hblk3 d1 hw3 b3 hS0 HH2 HX2 bx0 c0 c1 HK s0 z0 s1 z1 s2 z2
  refine wp_region_C (S := fun W => W.cell? ⟨w.heap.size, 0, none⟩ = some (.pointer (some ⟨tb, 0, none⟩)) ∧ (W.cell? ⟨tb, 1, none⟩ = some (.slice Ak 0 ck) ∧ W.frozen? ⟨tb, 1, none⟩ = false) ∧ Ex w3 W (fun k => (Value.slice Ak 0 ck).ownBlock = some k)) 10 (by kernel_rfl) hSt (fun hHeld => ?_)
  clear hSt
  refine wpAnyC_take [10] (i := 0) (oi := _) (v := ?v20_0) rfl (by kernel_rfl) (by kernel_rfl) (by kernel_rfl) (by kernel_rfl) (fun _ _ _ h => h) (Or.inl ⟨by rfl, ?hy20_0⟩) (by assumption) ?rest20_0
  case hy20_0 => ((intro w hSw; (try dsimp only at hSw); go_simp); (try with_reducible rfl))
  (try simp only [Act.put, Array.getInternal_eq_getElem, List.getElem_toArray, List.getElem_cons_zero, List.getElem_cons_succ, List.setIfInBounds_toArray, List.set_cons_zero, List.set_cons_succ])
  refine wpAnyC_take [10] (i := 1) (oi := _) (v := ?v20_1) rfl (by kernel_rfl) (by kernel_rfl) (by kernel_rfl) (by kernel_rfl) (fun _ _ _ h => h) (Or.inl ⟨by rfl, ?hy20_1⟩) (by assumption) ?rest20_1
  case hy20_1 => ((intro w hSw; (try dsimp only at hSw); go_simp); (try with_reducible rfl))
  (try simp only [Act.put, Array.getInternal_eq_getElem, List.getElem_toArray, List.getElem_cons_zero, List.getElem_cons_succ, List.setIfInBounds_toArray, List.set_cons_zero, List.set_cons_succ])
  refine wpAnyC_take [10] (i := 2) (oi := _) (v := ?v20_2) rfl (by kernel_rfl) (by kernel_rfl) (by kernel_rfl) (by kernel_rfl) (fun _ _ _ h => h) (Or.inl ⟨by rfl, ?hy20_2⟩) (by assumption) ?rest20_2
  case hy20_2 => ((intro w hSw; (try dsimp only at hSw); go_simp); (try with_reducible rfl))
  (try simp only [Act.put, Array.getInternal_eq_getElem, List.getElem_toArray, List.getElem_cons_zero, List.getElem_cons_succ, List.setIfInBounds_toArray, List.set_cons_zero, List.set_cons_succ])
  refine wpAnyC_take [10] (i := 3) (oi := _) (v := ?v20_3) rfl (by kernel_rfl) (by kernel_rfl) (by kernel_rfl) (by kernel_rfl) (fun _ _ _ h => h) (Or.inl ⟨by rfl, ?hy20_3⟩) (by assumption) ?rest20_3
  case hy20_3 => ((intro w hSw; (try dsimp only at hSw); go_simp); (try with_reducible rfl))
  (try simp only [Act.put, Array.getInternal_eq_getElem, List.getElem_toArray, List.getElem_cons_zero, List.getElem_cons_succ, List.setIfInBounds_toArray, List.set_cons_zero, List.set_cons_succ])
  refine wpAnyC_take [10] (i := 4) (oi := _) (v := ?v20_4) rfl (by kernel_rfl) (by kernel_rfl) (by kernel_rfl) (by kernel_rfl) (fun _ _ _ h => h) (Or.inl ⟨by rfl, ?hy20_4⟩) (by assumption) ?rest20_4
  case hy20_4 => ((intro w hSw; (try dsimp only at hSw); go_simp); (try with_reducible rfl))
  (try simp only [Act.put, Array.getInternal_eq_getElem, List.getElem_toArray, List.getElem_cons_zero, List.getElem_cons_succ, List.setIfInBounds_toArray, List.set_cons_zero, List.set_cons_succ])
  refine wpAnyC_any (i := 5) (oi := _) (v := ?v20_5) rfl (by kernel_rfl) (by kernel_rfl) (by kernel_rfl) (by kernel_rfl) (fun _ _ _ h => h) (Or.inl ⟨by rfl, ?hy20_5⟩) (fun _ => by assumption) ?rest20_5
  case hy20_5 => ((intro w _; go_simp); (try with_reducible rfl))
  (try simp only [Act.put, Array.getInternal_eq_getElem, List.getElem_toArray, List.getElem_cons_zero, List.getElem_cons_succ, List.setIfInBounds_toArray, List.set_cons_zero, List.set_cons_succ])
  refine wpAnyC_one (i := 6) (o := _) (by kernel_rfl) rfl (fun K hK => ?_)
  go_simp
  refine hK.out _ _ (HS.out _ (hHeld.2.2.alloc _)) (fun hHeldN => ?_)
  clear hK K hHeld
  have hHeld := hHeldN
  clear hHeldN
  (try simp only [Act.put, Array.getInternal_eq_getElem, List.getElem_toArray, List.getElem_cons_zero, List.getElem_cons_succ, List.setIfInBounds_toArray, List.set_cons_zero, List.set_cons_succ])
  refine wpAnyC_one (i := 7) (o := _) (by kernel_rfl) rfl (fun K hK => ?_)
  refine step_append_two _ (by rfl) (.tmp 112) (.tmp 114) 22 (by rfl) lo 23 _ 1 8 info23 Tryz.underlying22 rfl (by decide) (.slice Ak 0 ck) 0 [] (by rfl) (HROW.out.alloc _) w3.heap.size 1 [.int .u64 a] (by rfl) (heap_at _ _ _ (by simp)) rfl (by simp [Value.oneCell']) (by omega) (by omega) (by simp; omega) ?_
  intro g cap2 w4 hown4 hlt4 htwo
  have hgr : w3.grownBy w4 (Value.slice Ak 0 ck).ownBlock := grown_trans (grown_trans (grown_drew _ _) (World.grownBy_alloc _ _ _)) (two_grown htwo)
  refine hK.out _ _ (HS.out _ ((Ex.refl w3 _).grown hgr (fun _ h _ => h))) (fun hHeldN => ?_)
  clear hK K hHeld
  have hHeld := hHeldN
  clear hHeldN
  (try simp only [Act.put, Array.getInternal_eq_getElem, List.getElem_toArray, List.getElem_cons_zero, List.getElem_cons_succ, List.setIfInBounds_toArray, List.set_cons_zero, List.set_cons_succ])
  refine wpAnyC_take [10, 9] (i := 8) (oi := _) (v := ?v20_8) rfl (by kernel_rfl) (by kernel_rfl) (by kernel_rfl) (by kernel_rfl) (fun _ _ _ h => h) (Or.inl ⟨by rfl, ?hy20_8⟩) (by assumption) ?rest20_8
  case hy20_8 => ((intro w hSw; (try dsimp only at hSw); go_simp); (try with_reducible rfl))
  (try simp only [Act.put, Array.getInternal_eq_getElem, List.getElem_toArray, List.getElem_cons_zero, List.getElem_cons_succ, List.setIfInBounds_toArray, List.set_cons_zero, List.set_cons_succ])
  refine wpAnyC_take [10] (i := 9) (oi := _) (v := ?v20_9) rfl (by kernel_rfl) (by kernel_rfl) (by kernel_rfl) (by kernel_rfl) (fun _ _ _ h => h) (Or.inl ⟨by rfl, ?hy20_9⟩) (by assumption) ?rest20_9
  case hy20_9 => ((intro w hSw; (try dsimp only at hSw); go_simp); (try with_reducible rfl))
  (try simp only [Act.put, Array.getInternal_eq_getElem, List.getElem_toArray, List.getElem_cons_zero, List.getElem_cons_succ, List.setIfInBounds_toArray, List.set_cons_zero, List.set_cons_succ])
  refine wpAnyC_last (o := _) (by kernel_rfl) rfl (fun K hK => ?_)
  go_simp
  refine hK.out _ _ ?_
  clear hK K
  refine wpAnyC_done (by kernel_rfl) ?_ _
  have hb4 := HBLK.out.kept (hHeld.2.2.block tb (by have := HSZ.out; omega) hkeytb)
  have hgtb : (Value.slice (some ⟨g, 0, none⟩) (0 + 1) cap2).ownBlock ≠ some tb := own_apart (show w4.ownsRow lo 134 2 (.slice (some ⟨tb, 0, none⟩) 1 1) 1 _ from hb4) hown4 (by decide) rfl
  have hgor : g = w3.heap.size + 1 ∨ (Value.slice Ak 0 ck).ownBlock = some g := by
    rcases htwo with h | h
    · exact .inr h.1
    · left; rw [h.1]; simp
  have HTAB : Hid (TabR (w4.setCell ⟨tb, 1, none⟩ (.slice (some ⟨g, 0, none⟩) 1 cap2)) lo tb sg (.slice (some ⟨g, 0, none⟩) 1 cap2) (some (a : Int))) := by
    have hset : ∀ k, k ≠ tb → (w4.setCell ⟨tb, 1, none⟩ (.slice (some ⟨g, 0, none⟩) 1 cap2)).heap[k]? = w4.heap[k]? := fun k hk => Below.heap_setCell w4 ⟨tb, 1, none⟩ _ k hk
    refine ⟨(hb4.set 1 (.slice (some ⟨g, 0, none⟩) 1 cap2)).congr fun i hi => ?_, ?_, ?_⟩
    · have : i = 0 ∨ i = 1 := by omega
      rcases this with rfl | rfl <;> rfl
    · refine own_keep HSL.out fun k hk => ?_
      obtain rfl : sg = k := by injection hk
      rw [hset sg (fun e => hne e.symm)]
      exact hHeld.2.2.block sg (by have := HSZ.out; omega) hkeyne
    · exact own_keep hown4 fun k hk => hset k fun e => hgtb (by rw [← e]; exact hk)
  have HEX : Hid (Ex w (w4.setCell ⟨tb, 1, none⟩ (.slice (some ⟨g, 0, none⟩) 1 cap2)) (fun k => k = tb ∨ k = sg ∨ (Value.slice Ak 0 ck).ownBlock = some k)) := (HX3.out.trans hHeld.2.2 (fun k _ h => .inr (.inr h))).set _ _ fun _ => .inl rfl
  have HGO : Hid ((Value.slice (some ⟨g, 0, none⟩) 1 cap2).ownBlock = (Value.slice Ak 0 ck).ownBlock ∨ ∃ g', (Value.slice (some ⟨g, 0, none⟩) 1 cap2).ownBlock = some g' ∧ w.heap.size ≤ g') := by
    rcases hgor with h | h
    · exact .inr ⟨g, rfl, by have := HSZ.out; omega⟩
    · exact .inl h.symm
  clear hHeld hown4 htwo hgr hb4 hgtb hgor
  go_wp2
  go_ret3
  exact ⟨rfl, _, HTAB.out, HGO.out, HEX.out⟩
end
end Go.Proofs.YtomcobcmjocapaaGreatDoor
