/- Walk: the reference's Far comes to the same distances, by relaxation. -/
import Derived.Test.YtjifpjfinffamaaW5
namespace Go.Proofs.Ytjifpjfinffamaa
open Go.RowKit

def Tight (d : List Int) (e : E) : Prop := 0 ≤ at_ d e.f → ¬ (at_ d e.t < 0 ∨ at_ d e.f + 1 < at_ d e.t)
def fl (b : Bool) : Nat := if b then 1 else 0

set_option maxRecDepth 100000 in
set_option maxHeartbeats 3200000 in
theorem refFar_any (N σ : Nat) (A : Option Addr) (cap : Nat) (l : List E) (w : World) (hN : N ≤ 65536) (hσ : σ < N) (ok : Ok N l) (hl : l.length * 24 ≤ 140737488351232) (hc : RE w w.heap.size A l) :
    Calls Try.prog 71 #[.int .i64 N, .int .i64 σ, .slice A l.length cap] w fun e w' => ∃ c' d, e = .returned (.slice (some ⟨w.heap.size, 0, none⟩) N c') ∧ IsDist N l σ d ∧ w'.ownsRow w.heap.size 3 1 (.slice (some ⟨w.heap.size, 0, none⟩) N c') N (ints d) ∧ Below w.heap.size w w' ∧ Small N d := by
  go_enter Try.func71, Try.ntmps71
  go_wp2_with (at_make; refine halt_ ?_)
  refine Halt_.go ?_
  obtain ⟨i0, hi, hz0, hz1, hz2⟩ := info_parts info3
  refine wpList_make_full _ rfl _ _ 31 rfl w.heap.size 3 i0 _ 1 Try.underlying31 hi hz0 hz1 _ _ _ _ N (by rfl) (by rfl) rfl rfl (by rw [hz2]; omega) (by unfold maxLen; omega) (Nat.le_refl _) ?_
  intro w1 hown1 hgrow1
  have hds : (madeCells (Value.int .i64 0).cells (N * 1)).toList = ints (List.replicate N 0) := by
    rw [show (Value.int .i64 0).cells = #[Value.int .i64 0] from rfl, toList_madeCells_one, Nat.mul_one]
    simp [ints]
  rw [hds] at hown1
  have hb1 : Below w.heap.size w w1 := (Below.refl _ _).grown hgrow1 (Nat.le_refl _) (fun g hg => by cases hg)
  clear hds hgrow1 hi hz0 hz1 hz2
  go_wp2
  go_loopw [8] (fun i wr => ∃ (k : Nat) (ds : List Int), k ≤ N ∧ i = .int .i64 k ∧ ds.length = N ∧ (∀ j : Nat, j < k → ds[j]? = some (-1)) ∧ wr.ownsRow w.heap.size 3 1 (.slice (some ⟨w.heap.size, 0, none⟩) N N) N (ints ds) ∧ Below w.heap.size w wr) (fun i _ => N - (intOf i).toNat)
  case atStart => exact ⟨0, _, Nat.zero_le _, rfl, by simp, fun j hj => by omega, hown1, hb1⟩
  case round =>
    clear hown1 hb1
    obtain ⟨k, ds, hk, rfl, hdl, hneg, hown, hbel⟩ := hrel
    by_cases hlt : k < N
    · have h1 := own_cell hown (v := k) (by omega)
      have h2 := hown.frozenAt k
      have h3 := own_set hown k (-1)
      have H3 := Lib.hid h3
      have HN := Lib.hid hneg
      have HD := Lib.hid hdl
      clear hown h3 hneg hdl
      go_wp2
      go_roundw
      case rel =>
        refine ⟨k + 1, _, by omega, by go_num, by rw [List.length_set]; exact HD.out, fun j hj => ?_, H3.out, hbel.setCell (Nat.le_refl _) _⟩
        by_cases hjk : j = k
        · subst hjk; rw [List.getElem?_set_self (by have := HD.out; omega)]
        · rw [List.getElem?_set_ne (by omega)]; exact HN.out j (by omega)
      case measure => simp [intOf]; omega
    · have hrep : ds = List.replicate N (-1) := by
        apply List.ext_getElem?
        intro j
        by_cases hj : j < N
        · rw [hneg j (by omega)]; simp [hj]
        · rw [List.getElem?_eq_none (by omega), List.getElem?_eq_none (by simp; omega)]
      subst hrep
      clear hneg hdl
      have h1 := own_cell hown (v := σ) (by simp; omega)
      have h2 := hown.frozenAt σ
      have h3 := own_set hown σ 0
      have hB := FInv.start (n := (N : Int)) (l := l) (s := (σ : Int)) (by omega)
      simp only [Int.toNat_natCast] at hB
      have H3 := Lib.hid h3
      have HB := Lib.hid hB
      clear hown h3 hB
      go_wp2
      go_loopg [9] (2 * weight N ((List.replicate N (-1)).set σ 0) + 1) (fun gk v wr => ∃ (ds : List Int) (b : Bool), v = .bool b ∧ FInv N l σ ds ∧ (b = false → ∀ e ∈ l, Tight ds e) ∧ wr.ownsRow w.heap.size 3 1 (.slice (some ⟨w.heap.size, 0, none⟩) N N) N (ints ds) ∧ 2 * weight N ds + fl b ≤ gk ∧ Below w.heap.size w wr)
      case atStart => exact ⟨_, true, rfl, HB.out, fun h => (by cases h), H3.out, Nat.le_refl _, hbel.setCell (Nat.le_refl _) _⟩
      case round =>
        clear HB H3 h1 h2 hbel
        obtain ⟨ds, b, rfl, hB, hT, hown, hle, hbel⟩ := hrel
        cases b with
        | false =>
          have HB := Lib.hid (hB.fin (hT rfl))
          have hsm : Small N ds := fun v h0 h1 => by
            have h2 := hB.few v h0 h1
            have h3 := seen_le ds
            have h4 := own_len hown
            omega
          have HS := Lib.hid hsm
          clear hB hT hsm
          go_wp2
          go_ret
          exact ⟨_, ds, rfl, HB.out, hown, hbel, HS.out⟩
        | true =>
          have HB := Lib.hid hB
          have HO := Lib.hid hown
          have HL := Lib.hid hle
          have HE := Lib.hid hc
          clear hB hT hown hle hc
          go_wp2
          go_loopw [9, 10] (fun v i wr => ∃ (p : Nat) (ds' : List Int) (b : Bool), p ≤ l.length ∧ v = .bool b ∧ i = .int .i64 p ∧ FInv N l σ ds' ∧ (b = false → ∀ e ∈ l.take p, Tight ds' e) ∧ wr.ownsRow w.heap.size 3 1 (.slice (some ⟨w.heap.size, 0, none⟩) N N) N (ints ds') ∧ weight N ds' + fl b ≤ weight N ds ∧ Below w.heap.size w wr) (fun v i _ => l.length - (intOf i).toNat)
          case atStart => exact ⟨0, ds, false, Nat.zero_le _, rfl, rfl, HB.out, fun _ e he => by simp at he, HO.out, by simp [fl], hbel⟩
          case round =>
            clear HB HO hbel
            obtain ⟨p, ds', b, hp, rfl, rfl, hB, hT, hown, hle, hbel⟩ := hrel
            by_cases hlt : p < l.length
            · obtain ⟨eb, eo, f, t, kk, rfl, heb, he, he1, he2, he3⟩ := HE.out.at_ hbel hlt
              have hmem := List.mem_of_getElem? he.out
              have hok := ok _ hmem
              simp only at hok
              obtain ⟨f, rfl⟩ := Int.eq_ofNat_of_zero_le hok.1.1
              obtain ⟨t, rfl⟩ := Int.eq_ofNat_of_zero_le hok.2.1
              have hfN : f < N := by have := hok.1.2; omega
              have htN : t < N := by have := hok.2.2; omega
              have hdl := own_len hown
              have hcf := own_cell hown (v := f) (by omega)
              have hct := own_cell hown (v := t) (by omega)
              have hfr := hown.frozenAt t
              have htk : l.take (p + 1) = l.take p ++ [⟨(f : Int), (t : Int), kk⟩] := by rw [List.take_add_one, he.out]; rfl
              have i1 : (0 : Int) ≤ (f : Int) := by omega
              have i2 : (f : Int) < (N : Int) := by omega
              have i3 : (0 : Int) ≤ (t : Int) := by omega
              have i4 : (t : Int) < (N : Int) := by omega
              have hxr : -1 ≤ at_ ds' f ∧ at_ ds' f < N := by
                have h1 := hB.wk f (by omega) (by omega)
                have h2 := hB.few f (by omega) (by omega)
                have h3 := seen_le ds'
                omega
              have hyr : -1 ≤ at_ ds' t ∧ at_ ds' t < N := by
                have h1 := hB.wk t (by omega) (by omega)
                have h2 := hB.few t (by omega) (by omega)
                have h3 := seen_le ds'
                omega
              have HT := Lib.hid hT
              have HK := Lib.hid htk
              by_cases hcond : 0 ≤ at_ ds' f ∧ (at_ ds' t < 0 ∨ at_ ds' f + 1 < at_ ds' t)
              · obtain ⟨hB2, hw2, _⟩ := hB.relax ok hmem hcond.1 hcond.2
                simp only [Int.toNat_natCast] at hB2 hw2
                have hown2 := own_set hown t (at_ ds' f + 1)
                have HB := Lib.hid hB2
                have HO := Lib.hid hown2
                have HL := Lib.hid hle
                have HW := Lib.hid hw2
                have hc1 := hcond.1
                have hc2 := hcond.2
                clear hB hB2 hT hown hown2 hle hmem hok he hdl htk ok hw2 hcond
                by_cases hneg : at_ ds' t < 0
                · clear hc2
                  go_wp2
                  go_roundw
                  case rel => exact ⟨p + 1, _, true, hlt, rfl, by go_num, HB.out, fun h => (by cases h), HO.out, by have := HL.out; have := HW.out; simp only [fl, if_true]; omega, hbel.setCell (Nat.le_refl _) _⟩
                  case measure => simp [intOf]; omega
                · have hc3 : at_ ds' f + 1 < at_ ds' t := by omega
                  clear hc2
                  go_wp2
                  go_roundw
                  case rel => exact ⟨p + 1, _, true, hlt, rfl, by go_num, HB.out, fun h => (by cases h), HO.out, by have := HL.out; have := HW.out; simp only [fl, if_true]; omega, hbel.setCell (Nat.le_refl _) _⟩
                  case measure => simp [intOf]; omega
              · have hT2 : b = false → ∀ e ∈ l.take (p + 1), Tight ds' e := by
                  intro hb e he
                  rw [HK.out] at he
                  rcases List.mem_append.1 he with he | he
                  · exact HT.out hb e he
                  · simp only [List.mem_singleton] at he
                    subst he
                    exact fun h1 h2 => hcond ⟨h1, h2⟩
                have HB := Lib.hid hB
                have HO := Lib.hid hown
                have HL := Lib.hid hle
                have HT2 := Lib.hid hT2
                clear hB hT hT2 hown hle hmem hok he hdl htk ok
                by_cases hf0 : at_ ds' f < 0
                · clear hcond
                  go_wp2
                  go_roundw
                  case rel => exact ⟨p + 1, ds', b, hlt, rfl, by go_num, HB.out, HT2.out, HO.out, HL.out, hbel⟩
                  case measure => simp [intOf]; omega
                · have hc1 : 0 ≤ at_ ds' t := by omega
                  have hc2 : at_ ds' t ≤ at_ ds' f + 1 := by omega
                  clear hcond
                  go_wp2
                  go_roundw
                  case rel => exact ⟨p + 1, ds', b, hlt, rfl, by go_num, HB.out, HT2.out, HO.out, HL.out, hbel⟩
                  case measure => simp [intOf]; omega
            · have hpl : p = l.length := by omega
              subst hpl
              have HB := Lib.hid hB
              have HO := Lib.hid hown
              have HL2 := Lib.hid hle
              have HT := Lib.hid hT
              clear hB hT hown hle
              go_wp2
              go_roundg (gk - 1)
              case measure => have := HL.out; simp only [fl, if_true] at this; omega
              case rel => exact ⟨ds', b, rfl, HB.out, fun h e he => HT.out h e (by rw [List.take_length]; exact he), HO.out, by have := HL.out; have := HL2.out; cases b <;> simp [fl] at * <;> omega, hbel⟩
end Go.Proofs.Ytjifpjfinffamaa
