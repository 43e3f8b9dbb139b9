/- Walk: the document's own Keeps. -/
import Derived.Test.YtjifpjfinffamaaK1
namespace Go.Proofs.Ytjifpjfinffamaa
open Go.RowKit

set_option linter.unusedSimpArgs false in
set_option maxRecDepth 100000 in
set_option maxHeartbeats 3200000 in
theorem refKeeps_any (n : Int) (A3 : Option Addr) (cap3 : Nat) (xs : List Int) (A : Option Addr) (cap : Nat) (l : List E) (w : World) (hl : l.length * 24 ≤ 140737488351232) (hc : RE w w.heap.size A l) (hx : RK .i64 w w.heap.size A3 xs) :
    Calls Try.prog 33 #[.int .i64 n, .slice A3 xs.length cap3, .slice A l.length cap] w (KeepsEnds n xs l w) := by
  by_cases hR : rightB n l = true
  · obtain ⟨N, rfl, hN, ok⟩ := right_ok hR
    have HOK := Lib.hid ok
    have HR := Lib.hid hR
    have HC := Lib.hid hc
    have HX := Lib.hid hx
    have hri := refRight_any (N : Int) A cap l w (by omega) hc
    rw [hR] at hri
    have HRI := Lib.hid hri
    clear ok hR hc hx hri
    by_cases hxn : xs.length = N
    · go_enter Try.func33, Try.ntmps33
      go_wp2_with (first
        | (go_at_call 70; refine HRI.out.mono ?_; rintro e w1 ⟨rfl, rfl⟩)
        | (at_make; refine halt_ ?_))
      refine Halt_.go ?_
      obtain ⟨i0, hi, hz0, hz1, hz2⟩ := info_parts info3
      refine wpList_make_full _ rfl _ _ 31 rfl w.heap.size 3 i0 _ 1 Try.underlying31 hi hz0 hz1 _ _ _ _ N (by rfl) (by rfl) rfl rfl (by rw [hz2]; omega) (by unfold maxLen; omega) (Nat.le_refl _) ?_
      intro w3 hown1 hgrow1
      have hds : (madeCells (Value.int .i64 0).cells (N * 1)).toList = ints (List.replicate N 0) := by
        rw [show (Value.int .i64 0).cells = #[Value.int .i64 0] from rfl, toList_madeCells_one, Nat.mul_one]
        simp [ints]
      rw [hds, ← plc_zero N xs] at hown1
      have hbw : Below w.heap.size w w3 := (Below.refl _ _).grown hgrow1 (Nat.le_refl _) (fun g hg => by cases hg)
      obtain ⟨g0, hg0⟩ : ∃ g0, g0 = w.heap.size := ⟨_, rfl⟩
      rw [← hg0] at hown1
      rw [← hg0]
      have hs1 : w.heap.size ≤ g0 := Nat.le_of_eq hg0.symm
      have HO := Lib.hid hown1
      have HBW := Lib.hid hbw
      clear hds hgrow1 hi hz0 hz1 hz2 hown1 hbw hg0
      go_wp2
      go_loopw [8] (fun i wr => ∃ k : Nat, k ≤ xs.length ∧ i = .int .i64 k ∧ Hid (okU N xs k) ∧ wr.ownsRow g0 3 1 (.slice (some ⟨g0, 0, none⟩) N N) N (ints (plc N xs k)) ∧ Below w.heap.size w wr) (fun i _ => xs.length - (intOf i).toNat)
      case atStart => exact ⟨0, Nat.zero_le _, rfl, Lib.hid fun j hj => absurd hj (Nat.not_lt_zero _), HO.out, HBW.out⟩
      case round =>
        clear HO HBW
        obtain ⟨k, hk, rfl, HU, hown, hbel⟩ := hrel
        by_cases hlt : k < xs.length
        · obtain ⟨xb, xo, x, rfl, hxb, hxk, hcx⟩ := HX.out.at_ hbel hlt
          have hnx : nth xs k = x := by rw [nth_get hlt]; have := hxk.out; rw [List.getElem?_eq_getElem hlt] at this; injection this
          have HNX := Lib.hid hnx
          have i1 : (0 : Int) ≤ (k : Int) := by omega
          have i2 : (k : Int) < (xs.length : Int) := by omega
          have i9 : (k : Int) < (N : Int) := by omega
          clear hnx hxk
          by_cases h1 : x < 0
          · clear hown
            go_wp2
            go_ret
            exact ⟨false, rfl, .inr (.inr ⟨HR.out, by omega, .inl ⟨fun h => by have := h k (by omega); rw [HNX.out] at this; omega, rfl⟩⟩), hbel⟩
          · by_cases h2 : (N : Int) ≤ x
            · clear hown
              go_wp2
              go_ret
              exact ⟨false, rfl, .inr (.inr ⟨HR.out, by omega, .inl ⟨fun h => by have := h k (by omega); rw [HNX.out] at this; omega, rfl⟩⟩), hbel⟩
            · obtain ⟨v, rfl⟩ := Int.eq_ofNat_of_zero_le (show 0 ≤ x by omega)
              have hv : v < N := by omega
              have hph := plc_hit (xs := xs) (k := k) hv
              have hcz : wr.cell? ⟨g0, v, none⟩ = some (.int .i64 (nth (plc N xs k) v)) := by
                rw [hown.cellAt v (by omega)]
                simp [ints, nth_some (show v < (plc N xs k).length by rw [plc_len]; exact hv)]
              have hfz := hown.frozenAt v
              have hgw := (hown.lt g0 rfl).2
              have HOW := Lib.hid hown
              obtain ⟨z, hz⟩ : ∃ z, nth (plc N xs k) v = z := ⟨_, rfl⟩
              rw [hz] at hcz hph
              have hz2 := hph.2
              have HPH := Lib.hid hph.1
              have HZ := Lib.hid hz
              have i3 : (0 : Int) ≤ (v : Int) := by omega
              have i4 : (v : Int) < (N : Int) := by omega
              have i5 : ¬ (v : Int) < 0 := by omega
              clear hph hz hown
              by_cases h3 : 0 < z
              · have h4 : ¬ z = 0 := by omega
                go_wp2
                go_ret
                exact ⟨false, rfl, .inr (.inr ⟨HR.out, by omega, .inl ⟨fun h => by have := (h k (by omega)).2.2; rw [HNX.out] at this; exact this (HPH.out.2 h3), rfl⟩⟩), hbel⟩
              · have h4 : z = 0 := by omega
                have hnm : (v : Int) ∉ xs.take k := fun h => h3 (HPH.out.1 h)
                have hset := own_set HOW.out v ((k : Int) + 1)
                rw [← plc_next hlt HNX.out hv hnm] at hset
                have hu2 : okU N xs (k + 1) := by
                  intro j hj
                  rcases Nat.lt_or_ge j k with h | h
                  · exact HU.out j h
                  · obtain rfl : j = k := by omega
                    rw [HNX.out]
                    exact ⟨i3, i4, hnm⟩
                have HS := Lib.hid hset
                have HU2 := Lib.hid hu2
                subst h4
                clear hnm hset hu2
                go_wp2
                go_roundw
                case rel => exact ⟨k + 1, hlt, by go_num, HU2, HS.out, hbel.setCell hs1 _⟩
                case measure => simp [intOf]; omega
        · have hkN : k = N := by omega
          subst hkN
          have hpc : ∀ v, v < k → wr.cell? ⟨g0, v, none⟩ = some (.int .i64 (nth (plc k xs k) v)) := by
            intro v hv
            rw [hown.cellAt v (by omega)]
            simp [ints, nth_some (show v < (plc k xs k).length by rw [plc_len]; exact hv)]
          have HPC := Lib.hid hpc
          have HBE := Lib.hid hbel
          have hgw := (hown.lt g0 rfl).2
          clear hpc hown hbel
          go_wp2
          go_loopw [9] (fun i wr2 => ∃ j : Nat, j ≤ l.length ∧ i = .int .i64 j ∧ Hid ((l.take j).any (fun e => bad k xs e) = false) ∧ Hid (∀ v, v < k → wr2.cell? ⟨g0, v, none⟩ = some (.int .i64 (nth (plc k xs k) v))) ∧ Below w.heap.size w wr2) (fun i _ => l.length - (intOf i).toNat)
          case atStart => exact ⟨0, Nat.zero_le _, rfl, Lib.hid (by simp), HPC, HBE.out⟩
          case round =>
            clear HPC HBE hgw
            obtain ⟨j, hj, rfl, HA, HPC, hbel⟩ := hrel
            by_cases hjl : j < l.length
            · obtain ⟨eb, eo, f, t, kk, rfl, heb, he, he1, he2, he3⟩ := HC.out.at_ hbel hjl
              have hmem := HOK.out _ (List.mem_of_getElem? he.out)
              simp only at hmem
              obtain ⟨f, rfl⟩ := Int.eq_ofNat_of_zero_le hmem.1.1
              obtain ⟨t, rfl⟩ := Int.eq_ofNat_of_zero_le hmem.2.1
              have hfN : f < k := by have := hmem.1.2; omega
              have htN : t < k := by have := hmem.2.2; omega
              have hq2 := HPC.out f hfN
              have hq3 := HPC.out t htN
              have hbad : bad k xs ⟨(f : Int), (t : Int), kk⟩ = decide (nth (plc k xs k) t ≤ nth (plc k xs k) f) := by simp [bad]
              have htk : (l.take (j + 1)).any (fun e => bad k xs e) = bad k xs ⟨(f : Int), (t : Int), kk⟩ := by
                rw [List.take_add_one, he.out]
                simp only [Option.toList_some, List.any_append, HA.out, List.any_cons, List.any_nil, Bool.or_false, Bool.false_or]
              have hin : (⟨(f : Int), (t : Int), kk⟩ : E) ∈ l := List.mem_of_getElem? he.out
              have HIN := Lib.hid hin
              have HBD := Lib.hid hbad
              have HTK := Lib.hid htk
              have HBE := Lib.hid hbel
              clear hbad htk hin hmem he hbel
              have i1 : (0 : Int) ≤ (j : Int) := by omega
              have i2 : (j : Int) < (l.length : Int) := by omega
              have i3 : (0 : Int) ≤ (f : Int) := by omega
              have i4 : (f : Int) < (k : Int) := by omega
              have i5 : (0 : Int) ≤ (t : Int) := by omega
              have i6 : (t : Int) < (k : Int) := by omega
              go_wp2
              go_region
              all_goals
                go_wp2
                · have hle : nth (plc k xs k) t ≤ nth (plc k xs k) f := by assumption
                  go_ret
                  exact ⟨false, rfl, .inr (.inr ⟨HR.out, by omega, .inr ⟨HU.out, by rw [Int.toNat_natCast, List.any_eq_true.2 ⟨_, HIN.out, by rw [HBD.out]; simpa using hle⟩]; rfl⟩⟩), HBE.out.drew⟩
                · have hle : nth (plc k xs k) f < nth (plc k xs k) t := by assumption
                  go_roundw
                  case rel => exact ⟨j + 1, hjl, by go_num, Lib.hid (by rw [HTK.out, HBD.out]; simpa using hle), HPC, HBE.out.drew⟩
                  case measure => simp [intOf]; omega
            · have hkl : j = l.length := by omega
              subst hkl
              rw [List.take_length] at HA
              go_wp2
              go_ret
              refine ⟨true, rfl, .inr (.inr ⟨HR.out, by omega, .inr ⟨HU.out, by rw [Int.toNat_natCast, HA.out]; rfl⟩⟩), hbel⟩
    · have hne : ¬ (xs.length : Int) = (N : Int) := by omega
      go_enter Try.func33, Try.ntmps33
      go_wp2_with (go_at_call 70; refine HRI.out.mono ?_; rintro e w1 ⟨rfl, rfl⟩)
      go_ret
      exact ⟨false, rfl, .inr (.inl ⟨HR.out, hne, rfl⟩), Below.refl _ _⟩
  · have hR2 : rightB n l = false := by simpa using hR
    have hri := refRight_any n A cap l w (by omega) hc
    rw [hR2] at hri
    clear hR
    go_enter Try.func33, Try.ntmps33
    go_wp2_with (go_at_call 70; refine hri.mono ?_; rintro e w1 ⟨rfl, rfl⟩)
    go_ret
    exact ⟨false, rfl, .inl ⟨hR2, rfl⟩, Below.refl _ _⟩
end Go.Proofs.Ytjifpjfinffamaa
