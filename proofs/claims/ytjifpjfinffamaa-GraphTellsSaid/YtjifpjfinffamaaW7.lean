/- Walks: Reach and the reference's Reach. -/
import Derived.Test.YtjifpjfinffamaaLib4
namespace Go.Proofs.Ytjifpjfinffamaa
open Go.RowKit

def ReachEnds (n σ : Int) (l : List E) (w : World) (e : Ending) (w' : World) : Prop :=
  ∃ A c xs er, e = .returned (.tuple #[.slice A xs.length c, .int .i64 er]) ∧ ReachS n σ l xs er ∧ OwnI w' w.heap.size A c xs ∧ Below w.heap.size w w'

set_option maxRecDepth 100000 in
set_option maxHeartbeats 3200000 in
theorem reach_any (n σ : Int) (A : Option Addr) (cap : Nat) (l : List E) (w : World) (hl : l.length * 24 ≤ 140737488351232) (hc : RE w w.heap.size A l) :
    Calls Try.prog 35 #[.int .i64 n, .int .i64 σ, .slice A l.length cap] w (ReachEnds n σ l w) := by
  by_cases hR : rightB n l = true
  · by_cases hσ : 0 ≤ σ ∧ σ < n
    · obtain ⟨N, rfl, hN, ok⟩ := right_ok hR
      obtain ⟨σ, rfl⟩ := Int.eq_ofNat_of_zero_le hσ.1
      have hσN : σ < N := by have := hσ.2; omega
      have i1 : (0 : Int) ≤ (σ : Int) := by omega
      have i2 : (σ : Int) < (N : Int) := by omega
      have i3 : ¬ (σ : Int) < 0 := by omega
      have i4 : ¬ (N : Int) ≤ (σ : Int) := by omega
      go_enter Try.func35, Try.ntmps35
      go_wp2_with (first
        | (go_at_call 67; refine (right_any _ _ _ l _ (by omega) hc).mono ?_; rintro e w1 ⟨rfl, hb1⟩; have hc1 := (hc.below hb1).more hb1.size; clear hc)
        | (go_at_call 68; refine (out_any N _ _ l _ hN ok hl hc1).mono ?_; rintro e w2 ⟨A2, c2, rfl, hr2, hb2⟩; have hc2 := (hc1.below hb2).more hb2.size)
        | (go_at_call 69; refine halt_ ?_))
      refine Halt_.go ?_
      refine (far_any N σ _ _ _ _ l _ hN hσN ok hl hc2 hr2).mono ?_
      rintro e w3 ⟨c3, d, rfl, hD, hown3, hb3', _⟩
      have hb3 : Below w.heap.size w w3 := (hb1.trans (hb2.mono hb1.size)).trans (hb3'.mono (Nat.le_trans hb1.size hb2.size))
      clear hb3' hr2 hb2 hb1 hc1 hc2
      obtain ⟨hdl, hown3⟩ := OwnI.of_far hown3
      have hrd := hown3.reads
      have hR' : rightB (N : Int) l = true := hR
      have hσ0 := i1
      have hσ1 := i2
      have HRR := Lib.hid hR'
      clear hown3 hR hR' hσ ok
      go_wp2
      go_loopw [32, 8] (fun aa bb wr => ∃ (k : Nat) (A : Option Addr) (c : Nat), k ≤ N ∧ aa = .int .i64 k ∧ bb = .slice A (reachL d k).length c ∧ OwnI wr w3.heap.size A c (reachL d k) ∧ Below w3.heap.size w3 wr) (fun aa bb _ => N - (intOf aa).toNat)
      case atStart => exact ⟨0, none, 0, Nat.zero_le _, rfl, rfl, OwnI.nil _ _, Below.refl _ _⟩
      case round =>
        obtain ⟨k, A', c', hk, rfl, rfl, hown, hbel⟩ := hrel
        have hsz := hbel.size
        have hcnt := reachL_len d k
        by_cases hlt : k < N
        · obtain ⟨db, dof, x, hA, hdb, hx, hcx⟩ := hrd.at_ hbel (k := k) (by omega)
          injection hA with hA
          injection hA with h1 h2
          subst h1 h2
          simp only [Nat.zero_add] at hcx
          have hxe : x = at_ d k := by simp [at_, List.getD, hx.out]
          have HX := Lib.hid hxe
          have HO := Lib.hid hown
          have HD := Lib.hid hD
          have HR := Lib.hid hrd
          clear hown hD hxe hx
          by_cases hge : 0 ≤ x
          · go_wp2_with (at_builtin; refine halt_ ?_)
            refine Halt_.go ?_
            refine wl_push _ (by rfl) (.tmp 39) (.tmp 41) 31 (by rfl) info3 Try.underlying31 w3.heap.size A' c' (reachL d k) (by rfl) (HO.out.below (Nat.le_refl _) ((Below.refl _ _).alloc (Nat.le_refl _) _)) wr.heap.size 1 (k : Int) (by rfl) (heap_at _ _ _ rfl) (by omega) (by simp; omega) ?_
            intro A2 c2 w4 hown2 hkeep
            rw [← reachL_hit (by rw [← HX.out]; exact hge)] at hown2
            have hb2 := hkeep _ _ (Nat.le_refl _) (hbel.alloc hbel.size (.cells #[.int .i64 (k : Int)] 3))
            have hlen : (reachL d k).length + 1 = (reachL d (k + 1)).length := by rw [reachL_hit (by rw [← HX.out]; exact hge)]; simp
            rw [hlen]
            clear hkeep hbel hlen
            have HO2 := Lib.hid hown2
            clear hown2 HO
            go_wp2
            go_roundw
            case rel => exact ⟨k + 1, A2, c2, hlt, by go_num, rfl, HO2.out, hb2⟩
            case measure => simp [intOf]; omega
          · go_wp2
            go_roundw
            case rel =>
              have hm := reachL_miss (d := d) (k := k) (by rw [← HX.out]; exact hge)
              refine ⟨k + 1, A', c', hlt, by go_num, by rw [hm], ?_, hbel⟩
              rw [hm]; exact HO.out
            case measure => simp [intOf]; omega
        · have hkN : k = N := by omega
          subst hkN
          have HO := Lib.hid hown
          have HD := Lib.hid hD
          clear hown hD
          go_wp2
          go_ret2
          exact ⟨A', c', _, 0, rfl, .inr ⟨HRR.out, hσ0, hσ1, rfl, d, HD.out, by simp⟩, HO.out.base hb3.size, hb3.trans (hbel.mono hb3.size)⟩

    · go_enter Try.func35, Try.ntmps35
      have hor : σ < 0 ∨ n ≤ σ := by omega
      have HR := Lib.hid hor
      by_cases hneg : σ < 0
      · clear hσ hor
        go_wp2_with (go_at_call 67; refine (right_any _ _ _ l _ (by omega) hc).mono ?_; rintro e w1 ⟨rfl, hb1⟩; have hc1 := hc.below hb1)
        go_ret2
        exact ⟨none, 0, [], 2, rfl, .inl ⟨.inr HR.out, rfl, rfl⟩, OwnI.nil _ _, hb1⟩
      · have hge : n ≤ σ := by omega
        clear hσ hor
        go_wp2_with (go_at_call 67; refine (right_any _ _ _ l _ (by omega) hc).mono ?_; rintro e w1 ⟨rfl, hb1⟩; have hc1 := hc.below hb1)
        go_ret2
        exact ⟨none, 0, [], 2, rfl, .inl ⟨.inr HR.out, rfl, rfl⟩, OwnI.nil _ _, hb1⟩
  · have hR2 : rightB n l = false := by simpa using hR
    go_enter Try.func35, Try.ntmps35
    clear hR
    go_wp2_with (go_at_call 67; refine (right_any _ _ _ l _ (by omega) hc).mono ?_; rintro e w1 ⟨rfl, hb1⟩; have hc1 := hc.below hb1)
    go_ret2
    exact ⟨none, 0, [], 2, rfl, .inl ⟨.inl hR2, rfl, rfl⟩, OwnI.nil _ _, hb1⟩

set_option maxRecDepth 100000 in
set_option maxHeartbeats 3200000 in
theorem refReach_any (n σ : Int) (A : Option Addr) (cap : Nat) (l : List E) (w : World) (hl : l.length * 24 ≤ 140737488351232) (hc : RE w w.heap.size A l) :
    Calls Try.prog 37 #[.int .i64 n, .int .i64 σ, .slice A l.length cap] w (ReachEnds n σ l w) := by
  by_cases hR : rightB n l = true
  · by_cases hσ : 0 ≤ σ ∧ σ < n
    · obtain ⟨N, rfl, hN, ok⟩ := right_ok hR
      obtain ⟨σ, rfl⟩ := Int.eq_ofNat_of_zero_le hσ.1
      have hσN : σ < N := by have := hσ.2; omega
      have i1 : (0 : Int) ≤ (σ : Int) := by omega
      have i2 : (σ : Int) < (N : Int) := by omega
      have i3 : ¬ (σ : Int) < 0 := by omega
      have i4 : ¬ (N : Int) ≤ (σ : Int) := by omega
      go_enter Try.func37, Try.ntmps37
      go_wp2_with (first
        | (go_at_call 70; refine (refRight_any _ _ _ l _ (by omega) hc).mono ?_; rintro e w1 ⟨rfl, rfl⟩)
        | (go_at_call 71; refine halt_ ?_))
      refine Halt_.go ?_
      refine (refFar_any N σ _ _ l _ hN hσN ok hl hc).mono ?_
      rintro e w3 ⟨c3, d, rfl, hD, hown3, hb3, _⟩
      obtain ⟨hdl, hown3⟩ := OwnI.of_far hown3
      have hrd := hown3.reads
      have hR' : rightB (N : Int) l = true := hR
      have hσ0 := i1
      have hσ1 := i2
      have HRR := Lib.hid hR'
      clear hown3 hR hR' hσ ok
      go_wp2
      go_loopw [9, 10] (fun aa bb wr => ∃ (k : Nat) (A : Option Addr) (c : Nat), k ≤ N ∧ bb = .int .i64 k ∧ aa = .slice A (reachL d k).length c ∧ OwnI wr w3.heap.size A c (reachL d k) ∧ Below w3.heap.size w3 wr) (fun aa bb _ => N - (intOf bb).toNat)
      case atStart => exact ⟨0, none, 0, Nat.zero_le _, rfl, rfl, OwnI.nil _ _, Below.refl _ _⟩
      case round =>
        obtain ⟨k, A', c', hk, rfl, rfl, hown, hbel⟩ := hrel
        have hsz := hbel.size
        have hcnt := reachL_len d k
        by_cases hlt : k < N
        · obtain ⟨db, dof, x, hA, hdb, hx, hcx⟩ := hrd.at_ hbel (k := k) (by omega)
          injection hA with hA
          injection hA with h1 h2
          subst h1 h2
          simp only [Nat.zero_add] at hcx
          have hxe : x = at_ d k := by simp [at_, List.getD, hx.out]
          have HX := Lib.hid hxe
          have HO := Lib.hid hown
          have HD := Lib.hid hD
          have HR := Lib.hid hrd
          clear hown hD hxe hx hc
          by_cases hge : 0 ≤ x
          · go_wp2_with (at_builtin; refine halt_ ?_)
            refine Halt_.go ?_
            refine wl_push _ (by rfl) (.tmp 38) (.tmp 40) 31 (by rfl) info3 Try.underlying31 w3.heap.size A' c' (reachL d k) (by rfl) (HO.out.below (Nat.le_refl _) ((Below.refl _ _).alloc (Nat.le_refl _) _)) wr.heap.size 1 (k : Int) (by rfl) (heap_at _ _ _ rfl) (by omega) (by simp; omega) ?_
            intro A2 c2 w4 hown2 hkeep
            rw [← reachL_hit (by rw [← HX.out]; exact hge)] at hown2
            have hb2 := hkeep _ _ (Nat.le_refl _) (hbel.alloc hbel.size (.cells #[.int .i64 (k : Int)] 3))
            have hlen : (reachL d k).length + 1 = (reachL d (k + 1)).length := by rw [reachL_hit (by rw [← HX.out]; exact hge)]; simp
            rw [hlen]
            clear hkeep hbel hlen
            have HO2 := Lib.hid hown2
            clear hown2 HO
            go_wp2
            go_roundw
            case rel => exact ⟨k + 1, A2, c2, hlt, by go_num, rfl, HO2.out, hb2⟩
            case measure => simp [intOf]; omega
          · go_wp2
            go_roundw
            case rel =>
              have hm := reachL_miss (d := d) (k := k) (by rw [← HX.out]; exact hge)
              refine ⟨k + 1, A', c', hlt, by go_num, by rw [hm], ?_, hbel⟩
              rw [hm]; exact HO.out
            case measure => simp [intOf]; omega
        · have hkN : k = N := by omega
          subst hkN
          have HO := Lib.hid hown
          have HD := Lib.hid hD
          clear hown hD
          go_wp2
          go_ret2
          exact ⟨A', c', _, 0, rfl, .inr ⟨HRR.out, hσ0, hσ1, rfl, d, HD.out, by simp⟩, HO.out.base hb3.size, hb3.trans (hbel.mono hb3.size)⟩

    · go_enter Try.func37, Try.ntmps37
      have hor : σ < 0 ∨ n ≤ σ := by omega
      have HR := Lib.hid hor
      by_cases hneg : σ < 0
      · clear hσ hor
        go_wp2_with (go_at_call 70; refine (refRight_any _ _ _ l _ (by omega) hc).mono ?_; rintro e w1 ⟨rfl, rfl⟩)
        go_ret2
        exact ⟨none, 0, [], 2, rfl, .inl ⟨.inr HR.out, rfl, rfl⟩, OwnI.nil _ _, Below.refl _ _⟩
      · have hge : n ≤ σ := by omega
        clear hσ hor
        go_wp2_with (go_at_call 70; refine (refRight_any _ _ _ l _ (by omega) hc).mono ?_; rintro e w1 ⟨rfl, rfl⟩)
        go_ret2
        exact ⟨none, 0, [], 2, rfl, .inl ⟨.inr HR.out, rfl, rfl⟩, OwnI.nil _ _, Below.refl _ _⟩
  · have hR2 : rightB n l = false := by simpa using hR
    go_enter Try.func37, Try.ntmps37
    clear hR
    go_wp2_with (go_at_call 70; refine (refRight_any _ _ _ l _ (by omega) hc).mono ?_; rintro e w1 ⟨rfl, rfl⟩)
    go_ret2
    exact ⟨none, 0, [], 2, rfl, .inl ⟨.inl hR2, rfl, rfl⟩, OwnI.nil _ _, Below.refl _ _⟩
end Go.Proofs.Ytjifpjfinffamaa
