/- Walk: SameBlocks of the document. -/
import Derived.Test.YtjifpjfinffamaaY2
namespace Go.Proofs.Ytjifpjfinffamaa
open Go.RowKit

theorem RN.below {w w' : World} {lo B : Nat} {v : Value} {l : List (Int × Int)} (h : RN w lo B v l) (hb : Below B w w') : RN w' lo B v l := h.keep fun _ _ hp => hb.cell hp

set_option maxRecDepth 100000 in
set_option maxHeartbeats 3200000 in
theorem sameBlocks_any (A A2 : Option Addr) (c d n : Nat) (L : List Bl) (hd hd2 : Nat → Value) (lo : Nat) (w : World) (hx : RB w lo w.heap.size A n L hd) (hy : RB w lo w.heap.size A2 n L hd2) (hl : n ≤ 1099511627776) (hE : ∀ i, (ent L i).length ≤ 1099511627776) :
    Calls Try.prog 21 #[.slice A n c, .slice A2 n d] w fun e w' => e = .returned (.bool true) ∧ Below w.heap.size w w' := by
  have hne : ((n : Int) != n) = false := by simp
  have HX := Lib.hid hx
  have HY := Lib.hid hy
  have HE := Lib.hid hE
  clear hx hy hE
  go_enter Try.func21, Try.ntmps21
  go_wp2
  go_loopw [5] (fun i wr => ∃ k : Nat, k ≤ n ∧ i = .int .i64 k ∧ Below w.heap.size w wr) (fun i _ => n - (intOf i).toNat)
  case atStart => exact ⟨0, Nat.zero_le _, rfl, Below.refl _ _⟩
  case round =>
    obtain ⟨k, hk, rfl, hB⟩ := hrel
    have hsz := hB.size
    by_cases hlt : k < n
    · obtain ⟨g, rfl, hg, hc, hr, ht⟩ := HX.out.at_ hB hlt
      obtain ⟨g2, rfl, hg2, hc2, hr2, ht2⟩ := HY.out.at_ hB hlt
      have e1 := HE.out (2 * k)
      have e2 := HE.out (2 * k + 1)
      rw [ent_rd] at e1
      rw [ent_wt] at e2
      have HHB := Lib.hid hB
      generalize blAt L k = b at *
      generalize hd (2 * k) = r at *
      generalize hd (2 * k + 1) = t at *
      generalize hd2 (2 * k) = r2 at *
      generalize hd2 (2 * k + 1) = t2 at *
      obtain ⟨th, kd, f, la, nm, bw, er, rd, wt⟩ := b
      obtain ⟨a0, a1, a2, a3, a4, a5, a6, a7, a8⟩ := hc
      obtain ⟨b0, b1, b2, b3, b4, b5, b6, b7, b8⟩ := hc2
      simp only at a0 a1 a2 a3 a4 a5 a6 a7 a8 b0 b1 b2 b3 b4 b5 b6 b7 b8 hr ht hr2 ht2 e1 e2
      have i1 : (0 : Int) ≤ (k : Int) := by omega
      have i2 : (k : Int) < (n : Int) := by omega
      have hgw : g < wr.heap.size := by omega
      have hgw2 : g2 < wr.heap.size := by omega
      have n0 : (th != th) = false := by simp
      have n1 : (kd != kd) = false := by simp
      have n2 : ((f : Int) != f) = false := by simp
      have n3 : ((la : Int) != la) = false := by simp
      have n4 : (nm != nm) = false := by simp
      have n5 : (bw != bw) = false := by simp
      have n6 : (er != er) = false := by simp
      have HR := Lib.hid hr
      have HT := Lib.hid ht
      have HR2 := Lib.hid hr2
      have HT2 := Lib.hid ht2
      clear hr ht hr2 ht2
      obtain ⟨Ar, cr, rfl, _⟩ := HR.out
      obtain ⟨At, ct, rfl, _⟩ := HT.out
      obtain ⟨Ar2, cr2, rfl, _⟩ := HR2.out
      obtain ⟨At2, ct2, rfl, _⟩ := HT2.out
      have E1 := Lib.hid e1
      have E2 := Lib.hid e2
      clear e1 e2 hB hne
      go_wp2
      go_region
      all_goals
        go_wp2_with (go_at_call 66; refine halt_ ?_)
        refine Halt_.go ?_
        refine (sameEntries_any _ _ lo w.heap.size rd _ (HR.out.below ?_) (HR2.out.below ?_) E1.out).mono ?_
        · go_grown
        · go_grown
        rintro e w' ⟨rfl, m1, rfl⟩
        go_wp2_with (go_at_call 66; refine halt_ ?_)
        refine Halt_.go ?_
        refine (sameEntries_any _ _ lo w.heap.size wt _ (HT.out.below ?_) (HT2.out.below ?_) E2.out).mono ?_
        · refine bdrewN ?_ _; go_grown
        · refine bdrewN ?_ _; go_grown
        rintro e w' ⟨rfl, m2, rfl⟩
        go_wp2
        go_roundw
        case rel =>
          refine ⟨k + 1, by omega, by go_num, ?_⟩
          have hB2 := HHB.out
          repeat refine bdrewN ?_ _
          go_grown
        case measure => simp [intOf]; omega
    · go_wp2
      go_ret
      exact ⟨rfl, hB⟩
end Go.Proofs.Ytjifpjfinffamaa
