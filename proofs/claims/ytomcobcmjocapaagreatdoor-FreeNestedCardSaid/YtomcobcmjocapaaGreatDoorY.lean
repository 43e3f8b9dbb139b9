/- The words as a list; two lists compared; num. -/
import Derived.Test.YtomcobcmjocapaaGreatDoorX
namespace Go.Proofs.YtomcobcmjocapaaGreatDoor
open Go.RowKit Go.MuLone
set_option maxRecDepth 100000 in
theorem num8 (w : World) (x : Int) : Calls Tryz.prog 8 #[.int .i64 x] w fun e w' => e = .returned (.int .i64 x) ∧ w' = w := by
  go_enter Tryz.func8, Tryz.ntmps8
  go_wp2
  go_ret
  exact ⟨rfl, rfl⟩
set_option maxRecDepth 100000 in
set_option maxHeartbeats 3200000 in
theorem kitWords (w : World) (A B : Option Addr) (c d : Nat) (xs ys : List Int) (hx : RK .u64 w w.heap.size A xs) (hy : RK .u64 w w.heap.size B ys) (hsm : xs.length ≤ 65536) :
    Calls Tryz.prog 11 #[.slice A xs.length c, .slice B ys.length d] w fun e w' => e = .returned (.bool (decide (xs = ys))) ∧ Below w.heap.size w w' := by
  by_cases hl : xs.length = ys.length
  · have HX := Lib.hid hx
    have HY := Lib.hid hy
    have HL := Lib.hid hl
    clear hx hy
    have e0 : ((xs.length : Int) == (xs.length : Int)) = true := by simp
    rw [← hl]
    clear hl
    go_enter Tryz.func11, Tryz.ntmps11
    go_wp2
    go_loopw [5] (fun i wr => ∃ k : Nat, k ≤ xs.length ∧ i = .int .i64 k ∧ Hid (∀ j, j < k → xs[j]? = ys[j]?) ∧ Hid (Below w.heap.size w wr)) (fun i _ => xs.length - (intOf i).toNat)
    case atStart => exact ⟨0, Nat.zero_le _, rfl, fun j h => absurd h (Nat.not_lt_zero _), Below.refl _ _⟩
    case round =>
      obtain ⟨k, hk, rfl, HE, HB⟩ := hrel
      by_cases hlt : k < xs.length
      · obtain ⟨ab, ao, x, rfl, _, HXK, cx⟩ := HX.out.at_ HB.out hlt
        obtain ⟨bb, bo, y, rfl, _, HYK, cy⟩ := HY.out.at_ HB.out (show k < ys.length by have := HL.out; omega)
        have i1 : (0 : Int) ≤ (k : Int) := by omega
        have i2 : (k : Int) < (xs.length : Int) := by omega
        by_cases hxy : x = y
        · subst hxy
          go_wp2
          go_quiet (fail)
          go_wp2
          go_roundw
          case rel =>
            refine ⟨k + 1, by omega, by go_num, Lib.hid (fun j hj => ?_), Lib.hid (bdrewN HB.out _)⟩
            by_cases hjk : j = k
            · subst hjk; rw [HXK.out, HYK.out]
            · exact HE.out j (by omega)
          case measure => simp [intOf]; omega
        · have i3 : (x == y) = false := by simpa using hxy
          go_wp2
          go_quiet (fail)
          go_wp2
          go_ret
          refine ⟨?_, bdrewN HB.out _⟩
          have hne : ¬ xs = ys := fun e => hxy (by have h1 := HXK.out; rw [e, HYK.out] at h1; injection h1 with h1; exact h1.symm)
          simp [hne]
      · go_wp2
        go_ret
        refine ⟨?_, HB.out⟩
        have he : xs = ys := by
          apply List.ext_getElem?
          intro j
          by_cases hj : j < xs.length
          · exact HE.out j (by omega)
          · have := HL.out
            rw [List.getElem?_eq_none (by omega), List.getElem?_eq_none (by omega)]
        simp [he]
  · have hne : ¬ xs = ys := fun e => hl (by rw [e])
    have i1 : ((xs.length : Int) == (ys.length : Int)) = false := by simp; omega
    clear hx hy
    go_enter Tryz.func11, Tryz.ntmps11
    go_wp2
    go_ret
    exact ⟨by simp [hne], Below.refl _ _⟩
set_option maxRecDepth 100000 in
set_option maxHeartbeats 3200000 in
theorem celWords (w : World) {lo cb g : Nat} {ws : List Int} (h : CelR w lo cb g ws) (hl : ws.length ≤ 65536) :
    Calls Tryz.prog 26 #[.pointer (some ⟨cb, 0, none⟩)] w fun e w' => ∃ A c, e = .returned (.slice A ws.length c) ∧ w'.ownsRow w.heap.size 23 1 (.slice A ws.length c) ws.length (wds ws) ∧ Below w.heap.size w w' := by
  have HC := Lib.hid h
  have HL := Lib.hid (celLen w h)
  clear h
  go_enter Tryz.func26, Tryz.ntmps26
  go_wp2_with (go_at_call 20; refine halt_ ?_)
  refine Halt_.go ?_
  refine HL.out.mono ?_
  rintro e w' ⟨rfl, rfl⟩
  clear HL
  go_wp2
  go_loopw [7, 3] (fun i vo wr => ∃ (k : Nat) (A : Option Addr) (c : Nat), k ≤ ws.length ∧ i = .int .i64 k ∧ vo = .slice A k c ∧ Hid (wr.ownsRow w'.heap.size 23 1 (.slice A k c) k (wds (ws.take k))) ∧ Hid (Below w'.heap.size w' wr)) (fun i _ _ => ws.length - (intOf i).toNat)
  case atStart => exact ⟨0, none, 0, Nat.zero_le _, rfl, rfl, by rw [List.take_zero]; exact World.ownsRow_nil _ _ _ _, Below.refl _ _⟩
  case round =>
    obtain ⟨k, A, c, hk, rfl, rfl, HO, HB⟩ := hrel
    by_cases hlt : k < ws.length
    · have hkx : ws[k]? = some ws[k] := by simp
      obtain ⟨x, hx⟩ : ∃ x, ws[k]? = some x := ⟨_, hkx⟩
      have hcr := HC.out.kept (HB.out.block _ HC.out.lt.2.1) (HB.out.block _ HC.out.lt.2.2.2)
      have c0 := hcr.c0
      have HU := Lib.hid (u64Load wr (hcr.at_ hx).1)
      have HXK := Lib.hid hx
      have i1 : (0 : Int) ≤ (k : Int) := by omega
      have i2 : (k : Int) < (ws.length : Int) := by omega
      have hszr := HB.out.size
      clear hkx hcr hx
      go_wp2_with (go_at_call 27; refine halt_ ?_)
      refine Halt_.go ?_
      refine HU.out.mono ?_
      rintro e w2 ⟨rfl, rfl⟩
      clear HU c0
      go_wp2_with (at_builtin; refine halt_ ?_)
      refine Halt_.go ?_
      refine wl_append1 _ (by rfl) (.tmp 10) (.tmp 18) 22 (by rfl) w'.heap.size 23 _ 1 8 info23 Tryz.underlying22 rfl (by decide) (.slice A k c) k (wds (ws.take k)) (by rfl) (HO.out.alloc _) w2.heap.size 1 [.int .u64 x] (by rfl) (heap_at _ _ _ rfl) rfl (by simp [Value.oneCell']) (by omega) (by omega) (by simp; omega) _ rfl ?_
      intro g' c' w3 hown3 hgr3 hb3 hg3
      have hw : wds (ws.take k) ++ [Value.int .u64 x] = wds (ws.take (k + 1)) := by
        rw [List.take_add_one, HXK.out]
        simp [wds]
      rw [hw] at hown3
      have HOW3 := Lib.hid hown3
      have HB3 : Hid (Below w'.heap.size w' w3) := by
        refine (HB.out.alloc hszr _).grown hgr3 (by simp; omega) (fun q hq => ?_)
        exact (World.ownsRow.lt HO.out q hq).1
      clear hown3 hw HO HB hgr3
      go_wp2
      go_roundw
      case rel => exact ⟨k + 1, _, _, by omega, by go_num, rfl, HOW3, HB3⟩
      case measure => simp [intOf]; omega
    · go_wp2
      go_ret
      have e : k = ws.length := by omega
      subst e
      have h1 := HO.out
      rw [List.take_length] at h1
      exact ⟨_, _, rfl, h1, HB.out⟩
set_option maxRecDepth 100000 in
set_option maxHeartbeats 3200000 in
theorem memWords (w : World) {lo m cb g sc ch : Nat} {ws : List Int} {ck st od : Int} {sb : Bool} (h : MemR w lo m cb g sc ch ws ck st od sb) (hev : ck = 0 ∨ ck = 2 ∨ ck = 4) (hl : ws.length ≤ 65536) :
    Calls Tryz.prog 12 #[.pointer (some ⟨m, 0, none⟩)] w fun e w' => ∃ A c, e = .returned (.slice A ws.length c) ∧ w'.ownsRow w.heap.size 23 1 (.slice A ws.length c) ws.length (wds ws) ∧ Below w.heap.size w w' := by
  have HN := Lib.hid (memNone w h)
  have HO := Lib.hid (memOpen w h hev)
  have HW := Lib.hid (celWords w h.cel hl)
  have c0 : w.cell? ⟨m, 0, none⟩ = some (.pointer (some ⟨cb, 0, none⟩)) := (h.c (i := 0) (by omega)).1
  have HM := Lib.hid h
  clear h hev
  go_enter Tryz.func12, Tryz.ntmps12
  go_wp2_with (go_at_call 19; refine halt_ ?_)
  refine Halt_.go ?_
  refine HN.out.mono ?_
  rintro e w' ⟨rfl, rfl⟩
  go_wp2
  refine wp_loop_once ?_
  go_wp2_with (go_at_call 25; refine halt_ ?_)
  refine Halt_.go ?_
  refine HO.out.mono ?_
  rintro e w' ⟨rfl, rfl⟩
  go_wp2_with (go_at_call 26; refine halt_ ?_)
  refine Halt_.go ?_
  refine HW.out.mono ?_
  rintro e w2 ⟨A, c, rfl, hown, hb⟩
  have hm2 := HM.out.blk.kept (hb.block _ HM.out.blk.lt.2)
  have HU := Lib.hid (u64Load w2 (show w2.cell? ⟨m, 1, none⟩ = some (.int .u64 ck) from (hm2.cell (j := 1) (by omega)).1))
  have HOWN := Lib.hid hown
  have HB := Lib.hid hb
  clear hm2 hown hb HN HO HW HM c0
  go_wp2_with (go_at_call 27; refine halt_ ?_)
  refine Halt_.go ?_
  refine HU.out.mono ?_
  rintro e w3 ⟨rfl, rfl⟩
  go_wp2
  go_ret
  exact ⟨_, _, rfl, HOWN.out, HB.out⟩
end Go.Proofs.YtomcobcmjocapaaGreatDoor
