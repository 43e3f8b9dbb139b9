/- Walk: the document's stands. -/
import Derived.Test.YtjifpjfinffamaaM8
import Derived.Test.YtjifpjfinffamaaW8
import Derived.BigQuiet
import Derived.Deep.QuietTactic
namespace Go.Proofs.Ytjifpjfinffamaa
open Go.RowKit

/-- another edge from f leads to a node from which a way leads to t, and not to t itself -/
def Std (l : List E) (f t : Int) (j : Nat) : Prop := (eg l j).f = f ∧ (eg l j).t ≠ t ∧ ∃ k, Wk l k (eg l j).t t
def StandsEnds (l : List E) (f t : Int) (w : World) (e : Ending) (w' : World) : Prop :=
  ∃ b : Bool, e = .returned (.bool b) ∧ (b = true ↔ ∃ j, j < l.length ∧ Std l f t j) ∧ Below w.heap.size w w'
theorem dst_none {l : List E} {a b : Int} (h : dst l a b < 0) : ¬ ∃ k, Wk l k a b := by
  rintro ⟨k, hk⟩
  have := dst_le hk
  omega
theorem dst_has {l : List E} {a b : Int} (h : 0 ≤ dst l a b) : ∃ k, Wk l k a b := by
  rcases dst_wk l a b with h1 | ⟨_, h2⟩
  · omega
  · exact ⟨_, h2⟩

set_option linter.unusedSimpArgs false in
set_option maxRecDepth 100000 in
set_option maxHeartbeats 3200000 in
theorem stands_any (N f t : Nat) (kk : Int) (A : Option Addr) (cap : Nat) (l : List E) (w : World) (hN : N ≤ 65536) (htN : t < N) (ok : Ok N l) (hl : l.length * 24 ≤ 140737488351232) (hc : RE w w.heap.size A l) :
    Calls Try.prog 80 #[.int .i64 N, .slice A l.length cap, .agg #[.int .i64 f, .int .i64 t, .int .i64 kk]] w (StandsEnds l f t w) := by
  have HC := Lib.hid hc
  have HOK := Lib.hid ok
  clear hc ok
  go_enter Try.func80, Try.ntmps80
  obtain ⟨b1, hb1⟩ : ∃ b, b = w.heap.size := ⟨_, rfl⟩
  obtain ⟨w1, hw1⟩ : ∃ w', w' = w.alloc (.cells #[.int .i64 f, .int .i64 t, .int .i64 kk] 69) := ⟨_, rfl⟩
  have hbel1 : Below b1 w w1 := by rw [hw1, hb1]; exact (Below.refl _ w).alloc (Nat.le_refl _) _
  have hs1 : w1.heap.size = b1 + 1 := by rw [hw1, hb1]; simp
  have hrow : w1.heap[b1]? = some (.cells #[.int .i64 f, .int .i64 t, .int .i64 kk] 69 (0, 0)) := by rw [hw1]; exact heap_at _ _ _ hb1.symm
  have HROW := Lib.hid hrow
  have HB1 := Lib.hid hb1
  have HBEL1 := Lib.hid hbel1
  have HS1 := Lib.hid hs1
  clear hrow hbel1 hs1
  go_wp2
  rw [← hw1, ← hb1]
  clear hw1 hb1
  go_wp2
  go_loopw [7] (fun i wr => ∃ p : Nat, p ≤ l.length ∧ i = .int .i64 p ∧ (∀ j, j < p → ¬ Std l f t j) ∧ Hid (Below (b1 + 1) w1 wr)) (fun i _ => l.length - (intOf i).toNat)
  case atStart => exact ⟨0, Nat.zero_le _, rfl, fun j hj => by omega, Lib.hid (by exact Below.refl _ _)⟩
  case round =>
    obtain ⟨p, hp, rfl, hno, HB⟩ := hrel
    have HNO := Lib.hid hno
    clear hno
    have hsz : b1 + 1 ≤ wr.heap.size := by have := HB.out.size; rw [HS1.out] at this; exact this
    have hb1' : b1 < wr.drew.heap.size := hsz
    have hbw : Below b1 w wr := HBEL1.out.trans (HB.out.mono (Nat.le_succ _))
    have HBW := Lib.hid hbw
    have hblk : wr.heap[b1]? = some (.cells #[.int .i64 f, .int .i64 t, .int .i64 kk] 69 (0, 0)) := (HB.out.block b1 (Nat.lt_succ_self _)).trans HROW.out
    have c0 : wr.cell? ⟨b1, 0, none⟩ = some (.int .i64 f) := by rw [cell_of_row wr b1 0 _ 69 (0, 0) hblk]; rfl
    have c1 : wr.cell? ⟨b1, 1, none⟩ = some (.int .i64 t) := by rw [cell_of_row wr b1 1 _ 69 (0, 0) hblk]; rfl
    clear hbw hblk
    by_cases hlt : p < l.length
    · obtain ⟨eb, eo, f2, t2, kk2, rfl, heb, he, hp1, hp2, _⟩ := HC.out.at_ (HBW.out.mono (Nat.le_of_eq HB1.out.symm)) hlt
      have heg : eg l p = ⟨f2, t2, kk2⟩ := by simp [eg, List.getD, he.out]
      have HEG := Lib.hid heg
      have hmem := HOK.out _ (List.mem_of_getElem? he.out)
      simp only at hmem
      obtain ⟨f2, rfl⟩ := Int.eq_ofNat_of_zero_le hmem.1.1
      obtain ⟨t2, rfl⟩ := Int.eq_ofNat_of_zero_le hmem.2.1
      have htN2 : t2 < N := by have := hmem.2.2; omega
      have i1 : (0 : Int) ≤ (p : Int) := by omega
      have i2 : (p : Int) < (l.length : Int) := by omega
      have i3 : (0 : Int) ≤ (t : Int) := by omega
      have i4 : (t : Int) < (N : Int) := by omega
      have HNX := Lib.hid (fun (h : ¬ Std l f t p) j (hj : j < p + 1) => show ¬ Std l f t j from by
        rcases Nat.lt_or_eq_of_le (Nat.lt_succ_iff.1 hj) with h1 | rfl
        · exact HNO.out j h1
        · exact h)
      clear heg hmem he
      by_cases hf : (f2 : Int) = f
      · obtain rfl : f = f2 := by omega
        by_cases ht : (t2 : Int) = t
        · have hne : ((t2 : Int) != (t : Int)) = false := by simp [ht]
          have HT := Lib.hid ht
          clear ht hf
          go_wp2
          go_quiet (fail)
          go_wp2
          go_roundw
          case rel => exact ⟨p + 1, hlt, by go_num, HNX.out (fun h => h.2.1 (by rw [HEG.out]; exact HT.out)), Lib.hid (bdrewN HB.out _)⟩
          case measure => simp [intOf]; omega
        · have hne : ((t2 : Int) != (t : Int)) = true := by simpa using ht
          have HT := Lib.hid ht
          obtain ⟨z, hz⟩ : ∃ z, dst l (t2 : Int) (t : Int) = z := ⟨_, rfl⟩
          have HZ := Lib.hid hz
          have hbd := HB.out.drew
          have hrd : RE wr.drew wr.drew.heap.size (some ⟨eb, eo, none⟩) l := (HC.out.below (HBW.out.drew.mono (Nat.le_of_eq HB1.out.symm))).more (by have := HBW.out.size; exact this)
          have heb' : eb < wr.drew.heap.size := Nat.lt_of_lt_of_le heb HBW.out.size
          clear ht hf hz HB HBW
          go_wp2
          refine wp_region_held_drew (S := (fun W => W.cell? ⟨eb, eo + p * 3, none⟩ = some (.int .i64 f) ∧ W.cell? ⟨eb, eo + p * 3 + 1, none⟩ = some (.int .i64 t2) ∧ W.cell? ⟨b1, 0, none⟩ = some (.int .i64 f) ∧ W.cell? ⟨b1, 1, none⟩ = some (.int .i64 t))) (by kernel_rfl) ⟨hp1, hp2, c0, c1⟩ (fun hHeld => ?_)
          refine wpAnyH_take (i := 0) (oi := _) (v := ?v0) rfl (by kernel_rfl) (by kernel_rfl) (by kernel_rfl) (fun _ _ _ h => h) (Or.inl ⟨by rfl, ?hy0⟩) (by assumption) ?rest0
          case hy0 => ((intro w hSw; (try dsimp only at hSw); go_simp); (try with_reducible rfl))
          (try simp only [Act.put, Array.getInternal_eq_getElem, List.getElem_toArray, List.getElem_cons_zero, List.getElem_cons_succ, List.setIfInBounds_toArray, List.set_cons_zero, List.set_cons_succ])
          refine wpAnyH_take (i := 1) (oi := _) (v := ?v1) rfl (by kernel_rfl) (by kernel_rfl) (by kernel_rfl) (fun _ _ _ h => h) (Or.inl ⟨by rfl, ?hy1⟩) (by assumption) ?rest1
          case hy1 => ((intro w hSw; (try dsimp only at hSw); go_simp); (try with_reducible rfl))
          (try simp only [Act.put, Array.getInternal_eq_getElem, List.getElem_toArray, List.getElem_cons_zero, List.getElem_cons_succ, List.setIfInBounds_toArray, List.set_cons_zero, List.set_cons_succ])
          refine wpAnyH_take (i := 2) (oi := _) (v := ?v2) rfl (by kernel_rfl) (by kernel_rfl) (by kernel_rfl) (fun _ _ _ h => h) (Or.inl ⟨by rfl, ?hy2⟩) (by assumption) ?rest2
          case hy2 => ((intro w hSw; (try dsimp only at hSw); go_simp); (try with_reducible rfl))
          (try simp only [Act.put, Array.getInternal_eq_getElem, List.getElem_toArray, List.getElem_cons_zero, List.getElem_cons_succ, List.setIfInBounds_toArray, List.set_cons_zero, List.set_cons_succ])
          refine wpAnyH_take (i := 3) (oi := _) (v := ?v3) rfl (by kernel_rfl) (by kernel_rfl) (by kernel_rfl) (fun _ _ _ h => h) (Or.inl ⟨by rfl, ?hy3⟩) (by assumption) ?rest3
          case hy3 => ((intro w hSw; (try dsimp only at hSw); go_simp); (try with_reducible rfl))
          (try simp only [Act.put, Array.getInternal_eq_getElem, List.getElem_toArray, List.getElem_cons_zero, List.getElem_cons_succ, List.setIfInBounds_toArray, List.set_cons_zero, List.set_cons_succ])
          refine wpAnyH_take (i := 4) (oi := _) (v := ?v4) rfl (by kernel_rfl) (by kernel_rfl) (by kernel_rfl) (fun _ _ _ h => h) (Or.inl ⟨by rfl, ?hy4⟩) (by assumption) ?rest4
          case hy4 => ((intro w hSw; (try dsimp only at hSw); go_simp); (try with_reducible rfl))
          (try simp only [Act.put, Array.getInternal_eq_getElem, List.getElem_toArray, List.getElem_cons_zero, List.getElem_cons_succ, List.setIfInBounds_toArray, List.set_cons_zero, List.set_cons_succ])
          refine wpAnyH_take (i := 5) (oi := _) (v := ?v5) rfl (by kernel_rfl) (by kernel_rfl) (by kernel_rfl) (fun _ _ _ h => h) (Or.inl ⟨by rfl, ?hy5⟩) (by assumption) ?rest5
          case hy5 => ((intro w hSw; (try dsimp only at hSw); go_simp); (try with_reducible rfl))
          (try simp only [Act.put, Array.getInternal_eq_getElem, List.getElem_toArray, List.getElem_cons_zero, List.getElem_cons_succ, List.setIfInBounds_toArray, List.set_cons_zero, List.set_cons_succ])
          refine wpAnyH_take (i := 6) (oi := _) (v := ?v6) rfl (by kernel_rfl) (by kernel_rfl) (by kernel_rfl) (fun _ _ _ h => h) (Or.inl ⟨by rfl, ?hy6⟩) (by assumption) ?rest6
          case hy6 => ((intro w hSw; (try dsimp only at hSw); go_simp); (try with_reducible rfl))
          (try simp only [Act.put, Array.getInternal_eq_getElem, List.getElem_toArray, List.getElem_cons_zero, List.getElem_cons_succ, List.setIfInBounds_toArray, List.set_cons_zero, List.set_cons_succ])
          refine wpAnyH_take (i := 7) (oi := _) (v := ?v7) rfl (by kernel_rfl) (by kernel_rfl) (by kernel_rfl) (fun _ _ _ h => h) (Or.inl ⟨by rfl, ?hy7⟩) (by assumption) ?rest7
          case hy7 => ((intro w hSw; (try dsimp only at hSw); go_simp); (try with_reducible rfl))
          (try simp only [Act.put, Array.getInternal_eq_getElem, List.getElem_toArray, List.getElem_cons_zero, List.getElem_cons_succ, List.setIfInBounds_toArray, List.set_cons_zero, List.set_cons_succ])
          refine wpAnyH_take (i := 8) (oi := _) (v := ?v8) rfl (by kernel_rfl) (by kernel_rfl) (by kernel_rfl) (fun _ _ _ h => h) (Or.inl ⟨by rfl, ?hy8⟩) (by assumption) ?rest8
          case hy8 => ((intro w hSw; (try dsimp only at hSw); go_simp); (try with_reducible rfl))
          (try simp only [Act.put, Array.getInternal_eq_getElem, List.getElem_toArray, List.getElem_cons_zero, List.getElem_cons_succ, List.setIfInBounds_toArray, List.set_cons_zero, List.set_cons_succ])
          refine wpAnyH_take (i := 9) (oi := _) (v := ?v9) rfl (by kernel_rfl) (by kernel_rfl) (by kernel_rfl) (fun _ _ _ h => h) (Or.inl ⟨by rfl, ?hy9⟩) (by assumption) ?rest9
          case hy9 => ((intro w hSw; (try dsimp only at hSw); go_simp); (try with_reducible rfl))
          (try simp only [Act.put, Array.getInternal_eq_getElem, List.getElem_toArray, List.getElem_cons_zero, List.getElem_cons_succ, List.setIfInBounds_toArray, List.set_cons_zero, List.set_cons_succ])
          refine wpAnyH_take (i := 10) (oi := _) (v := ?v10) rfl (by kernel_rfl) (by kernel_rfl) (by kernel_rfl) (fun _ _ _ h => h) (Or.inl ⟨by rfl, ?hy10⟩) (by assumption) ?rest10
          case hy10 => ((intro w hSw; (try dsimp only at hSw); go_simp); (try with_reducible rfl))
          (try simp only [Act.put, Array.getInternal_eq_getElem, List.getElem_toArray, List.getElem_cons_zero, List.getElem_cons_succ, List.setIfInBounds_toArray, List.set_cons_zero, List.set_cons_succ])
          refine wpAnyH_take (i := 11) (oi := _) (v := ?v11) rfl (by kernel_rfl) (by kernel_rfl) (by kernel_rfl) (fun _ _ _ h => h) (Or.inl ⟨by rfl, ?hy11⟩) (by assumption) ?rest11
          case hy11 => ((intro w hSw; (try dsimp only at hSw); go_simp); (try with_reducible rfl))
          (try simp only [Act.put, Array.getInternal_eq_getElem, List.getElem_toArray, List.getElem_cons_zero, List.getElem_cons_succ, List.setIfInBounds_toArray, List.set_cons_zero, List.set_cons_succ])
          refine wpAnyH_take (i := 12) (oi := _) (v := ?v12) rfl (by kernel_rfl) (by kernel_rfl) (by kernel_rfl) (fun _ _ _ h => h) (Or.inl ⟨by rfl, ?hy12⟩) (by assumption) ?rest12
          case hy12 => ((intro w hSw; (try dsimp only at hSw); go_simp); (try with_reducible rfl))
          (try simp only [Act.put, Array.getInternal_eq_getElem, List.getElem_toArray, List.getElem_cons_zero, List.getElem_cons_succ, List.setIfInBounds_toArray, List.set_cons_zero, List.set_cons_succ])
          refine wpAnyH_take (i := 13) (oi := _) (v := ?v13) rfl (by kernel_rfl) (by kernel_rfl) (by kernel_rfl) (fun _ _ _ h => h) (Or.inl ⟨by rfl, ?hy13⟩) (by assumption) ?rest13
          case hy13 => ((intro w hSw; (try dsimp only at hSw); go_simp); (try with_reducible rfl))
          (try simp only [Act.put, Array.getInternal_eq_getElem, List.getElem_toArray, List.getElem_cons_zero, List.getElem_cons_succ, List.setIfInBounds_toArray, List.set_cons_zero, List.set_cons_succ])
          refine wpAnyH_take (i := 14) (oi := _) (v := ?v14) rfl (by kernel_rfl) (by kernel_rfl) (by kernel_rfl) (fun _ _ _ h => h) (Or.inl ⟨by rfl, ?hy14⟩) (by assumption) ?rest14
          case hy14 => ((intro w hSw; (try dsimp only at hSw); go_simp); (try with_reducible rfl))
          (try simp only [Act.put, Array.getInternal_eq_getElem, List.getElem_toArray, List.getElem_cons_zero, List.getElem_cons_succ, List.setIfInBounds_toArray, List.set_cons_zero, List.set_cons_succ])
          refine wpAnyH_take (i := 15) (oi := _) (v := ?v15) rfl (by kernel_rfl) (by kernel_rfl) (by kernel_rfl) (fun _ _ _ h => h) (Or.inl ⟨by rfl, ?hy15⟩) (by assumption) ?rest15
          case hy15 => ((intro w hSw; (try dsimp only at hSw); go_simp); (try with_reducible rfl))
          (try simp only [Act.put, Array.getInternal_eq_getElem, List.getElem_toArray, List.getElem_cons_zero, List.getElem_cons_succ, List.setIfInBounds_toArray, List.set_cons_zero, List.set_cons_succ])
          refine wpAnyH_take (i := 16) (oi := _) (v := ?v16) rfl (by kernel_rfl) (by kernel_rfl) (by kernel_rfl) (fun _ _ _ h => h) (Or.inl ⟨by rfl, ?hy16⟩) (by assumption) ?rest16
          case hy16 => ((intro w hSw; (try dsimp only at hSw); go_simp); (try with_reducible rfl))
          (try simp only [Act.put, Array.getInternal_eq_getElem, List.getElem_toArray, List.getElem_cons_zero, List.getElem_cons_succ, List.setIfInBounds_toArray, List.set_cons_zero, List.set_cons_succ])
          refine wpAnyH_take (i := 17) (oi := _) (v := ?v17) rfl (by kernel_rfl) (by kernel_rfl) (by kernel_rfl) (fun _ _ _ h => h) (Or.inl ⟨by rfl, ?hy17⟩) (by assumption) ?rest17
          case hy17 => ((intro w hSw; (try dsimp only at hSw); go_simp); (try with_reducible rfl))
          (try simp only [Act.put, Array.getInternal_eq_getElem, List.getElem_toArray, List.getElem_cons_zero, List.getElem_cons_succ, List.setIfInBounds_toArray, List.set_cons_zero, List.set_cons_succ])
          refine wpAnyH_take (i := 18) (oi := _) (v := ?v18) rfl (by kernel_rfl) (by kernel_rfl) (by kernel_rfl) (fun _ _ _ h => h) (Or.inl ⟨by rfl, ?hy18⟩) (by assumption) ?rest18
          case hy18 => ((intro w hSw; (try dsimp only at hSw); go_simp); (try with_reducible rfl))
          (try simp only [Act.put, Array.getInternal_eq_getElem, List.getElem_toArray, List.getElem_cons_zero, List.getElem_cons_succ, List.setIfInBounds_toArray, List.set_cons_zero, List.set_cons_succ])
          refine wpAnyH_take (i := 19) (oi := _) (v := ?v19) rfl (by kernel_rfl) (by kernel_rfl) (by kernel_rfl) (fun _ _ _ h => h) (Or.inl ⟨by rfl, ?hy19⟩) (by assumption) ?rest19
          case hy19 => ((intro w hSw; (try dsimp only at hSw); go_simp); (try with_reducible rfl))
          (try simp only [Act.put, Array.getInternal_eq_getElem, List.getElem_toArray, List.getElem_cons_zero, List.getElem_cons_succ, List.setIfInBounds_toArray, List.set_cons_zero, List.set_cons_succ])
          refine wpAnyH_take (i := 20) (oi := _) (v := ?v20) rfl (by kernel_rfl) (by kernel_rfl) (by kernel_rfl) (fun _ _ _ h => h) (Or.inl ⟨by rfl, ?hy20⟩) (by assumption) ?rest20
          case hy20 => ((intro w hSw; (try dsimp only at hSw); go_simp); (try with_reducible rfl))
          (try simp only [Act.put, Array.getInternal_eq_getElem, List.getElem_toArray, List.getElem_cons_zero, List.getElem_cons_succ, List.setIfInBounds_toArray, List.set_cons_zero, List.set_cons_succ])
          refine wpAnyH_take (i := 21) (oi := _) (v := ?v21) rfl (by kernel_rfl) (by kernel_rfl) (by kernel_rfl) (fun _ _ _ h => h) (Or.inl ⟨by rfl, ?hy21⟩) (by assumption) ?rest21
          case hy21 => ((intro w hSw; (try dsimp only at hSw); go_simp); (try with_reducible rfl))
          (try simp only [Act.put, Array.getInternal_eq_getElem, List.getElem_toArray, List.getElem_cons_zero, List.getElem_cons_succ, List.setIfInBounds_toArray, List.set_cons_zero, List.set_cons_succ])
          refine wpAnyH_take (i := 22) (oi := _) (v := ?v22) rfl (by kernel_rfl) (by kernel_rfl) (by kernel_rfl) (fun _ _ _ h => h) (Or.inl ⟨by rfl, ?hy22⟩) (by assumption) ?rest22
          case hy22 => ((intro w hSw; (try dsimp only at hSw); go_simp); (try with_reducible rfl))
          (try simp only [Act.put, Array.getInternal_eq_getElem, List.getElem_toArray, List.getElem_cons_zero, List.getElem_cons_succ, List.setIfInBounds_toArray, List.set_cons_zero, List.set_cons_succ])
          refine wpAnyH_take (i := 23) (oi := _) (v := ?v23) rfl (by kernel_rfl) (by kernel_rfl) (by kernel_rfl) (fun _ _ _ h => h) (Or.inl ⟨by rfl, ?hy23⟩) (by assumption) ?rest23
          case hy23 => ((intro w hSw; (try dsimp only at hSw); go_simp); (try with_reducible rfl))
          (try simp only [Act.put, Array.getInternal_eq_getElem, List.getElem_toArray, List.getElem_cons_zero, List.getElem_cons_succ, List.setIfInBounds_toArray, List.set_cons_zero, List.set_cons_succ])
          refine wpAnyH_take (i := 24) (oi := _) (v := ?v24) rfl (by kernel_rfl) (by kernel_rfl) (by kernel_rfl) (fun _ _ _ h => h) (Or.inl ⟨by rfl, ?hy24⟩) (by assumption) ?rest24
          case hy24 => ((intro w hSw; (try dsimp only at hSw); go_simp); (try with_reducible rfl))
          (try simp only [Act.put, Array.getInternal_eq_getElem, List.getElem_toArray, List.getElem_cons_zero, List.getElem_cons_succ, List.setIfInBounds_toArray, List.set_cons_zero, List.set_cons_succ])
          refine wpAnyH_take (i := 25) (oi := _) (v := ?v25) rfl (by kernel_rfl) (by kernel_rfl) (by kernel_rfl) (fun _ _ _ h => h) (Or.inl ⟨by rfl, ?hy25⟩) (by assumption) ?rest25
          case hy25 => ((intro w hSw; (try dsimp only at hSw); go_simp); (try with_reducible rfl))
          (try simp only [Act.put, Array.getInternal_eq_getElem, List.getElem_toArray, List.getElem_cons_zero, List.getElem_cons_succ, List.setIfInBounds_toArray, List.set_cons_zero, List.set_cons_succ])
          refine wpAnyH_take (i := 27) (oi := _) (v := ?v27) rfl (by kernel_rfl) (by kernel_rfl) (by kernel_rfl) (fun _ _ _ h => h) (Or.inl ⟨by rfl, ?hy27⟩) (by assumption) ?rest27
          case hy27 => ((intro w hSw; (try dsimp only at hSw); go_simp); (try with_reducible rfl))
          (try simp only [Act.put, Array.getInternal_eq_getElem, List.getElem_toArray, List.getElem_cons_zero, List.getElem_cons_succ, List.setIfInBounds_toArray, List.set_cons_zero, List.set_cons_succ])
          refine wpAnyH_take (i := 28) (oi := _) (v := ?v28) rfl (by kernel_rfl) (by kernel_rfl) (by kernel_rfl) (fun _ _ _ h => h) (Or.inl ⟨by rfl, ?hy28⟩) (by assumption) ?rest28
          case hy28 => ((intro w hSw; (try dsimp only at hSw); go_simp); (try with_reducible rfl))
          (try simp only [Act.put, Array.getInternal_eq_getElem, List.getElem_toArray, List.getElem_cons_zero, List.getElem_cons_succ, List.setIfInBounds_toArray, List.set_cons_zero, List.set_cons_succ])
          refine wpAnyH_ready (rs := [26]) (by kernel_rfl) (by simp) ?_
          refine AllReadyH.cons (o := _) rfl (fun K hK => ?_) AllReadyH.nil
          go_simp
          (refine (refFar_ends N t2 _ _ l wr.drew hN htN2 HOK.out hl hrd).mono ?_; rintro e w2 ⟨g, c', rfl, hcell, hb2⟩; have hS2 : w2.cell? ⟨eb, eo + p * 3, none⟩ = some (.int .i64 f) ∧ w2.cell? ⟨eb, eo + p * 3 + 1, none⟩ = some (.int .i64 t2) ∧ w2.cell? ⟨b1, 0, none⟩ = some (.int .i64 f) ∧ w2.cell? ⟨b1, 1, none⟩ = some (.int .i64 t) := ⟨(hb2.cell (p := ⟨eb, eo + p * 3, none⟩) heb').trans hp1, (hb2.cell (p := ⟨eb, eo + p * 3 + 1, none⟩) heb').trans hp2, (hb2.cell (p := ⟨b1, 0, none⟩) hb1').trans c0, (hb2.cell (p := ⟨b1, 1, none⟩) hb1').trans c1⟩; have hbe := hbd.trans (hb2.mono hsz); obtain ⟨hcf, hz1, hz2⟩ := hcell t htN; rw [HZ.out] at hcf hz1 hz2; clear hcell hb2)
          refine hK.out _ _ hS2 (fun hHeld => ?_)
          clear hK K
          (try simp only [Act.put, Array.getInternal_eq_getElem, List.getElem_toArray, List.getElem_cons_zero, List.getElem_cons_succ, List.setIfInBounds_toArray, List.set_cons_zero, List.set_cons_succ])
          refine wpAnyH_take (i := 29) (oi := _) (v := ?v29) rfl (by kernel_rfl) (by kernel_rfl) (by kernel_rfl) (fun _ _ _ h => h) (Or.inl ⟨by rfl, ?hy29⟩) (by assumption) ?rest29
          case hy29 => ((intro w hSw; (try dsimp only at hSw); go_simp); (try with_reducible rfl))
          (try simp only [Act.put, Array.getInternal_eq_getElem, List.getElem_toArray, List.getElem_cons_zero, List.getElem_cons_succ, List.setIfInBounds_toArray, List.set_cons_zero, List.set_cons_succ])
          refine wpAnyH_ready (rs := [30]) (by kernel_rfl) (by simp) ?_
          refine AllReadyH.cons (o := _) rfl (fun K hK => ?_) AllReadyH.nil
          go_simp
          refine hK.out _ _ hS2 (fun hHeld => ?_)
          clear hK K
          (try simp only [Act.put, Array.getInternal_eq_getElem, List.getElem_toArray, List.getElem_cons_zero, List.getElem_cons_succ, List.setIfInBounds_toArray, List.set_cons_zero, List.set_cons_succ])
          refine wpAnyH_take (i := 31) (oi := _) (v := ?v31) rfl (by kernel_rfl) (by kernel_rfl) (by kernel_rfl) (fun _ _ _ h => h) (Or.inl ⟨by rfl, ?hy31⟩) (by assumption) ?rest31
          case hy31 => ((intro w hSw; (try dsimp only at hSw); go_simp); (try with_reducible rfl))
          (try simp only [Act.put, Array.getInternal_eq_getElem, List.getElem_toArray, List.getElem_cons_zero, List.getElem_cons_succ, List.setIfInBounds_toArray, List.set_cons_zero, List.set_cons_succ])
          refine wpAnyH_take (i := 32) (oi := _) (v := ?v32) rfl (by kernel_rfl) (by kernel_rfl) (by kernel_rfl) (fun _ _ _ h => h) (Or.inl ⟨by rfl, ?hy32⟩) (by assumption) ?rest32
          case hy32 => ((intro w hSw; (try dsimp only at hSw); go_simp); (try with_reducible rfl))
          (try simp only [Act.put, Array.getInternal_eq_getElem, List.getElem_toArray, List.getElem_cons_zero, List.getElem_cons_succ, List.setIfInBounds_toArray, List.set_cons_zero, List.set_cons_succ])
          refine wpAnyH_done (by kernel_rfl) ?_ _
          have HBE := Lib.hid hbe
          clear hbe hbd hrd hS2 heb'
          by_cases hz0 : 0 ≤ z
          · go_wp2
            go_ret
            exact ⟨true, rfl, ⟨fun _ => ⟨p, hlt, by rw [HEG.out], by rw [HEG.out]; exact HT.out, by rw [HEG.out]; exact dst_has (by rw [HZ.out]; exact hz0)⟩, fun _ => rfl⟩, by rw [← HB1.out]; exact HBEL1.out.trans (HBE.out.mono (Nat.le_succ _))⟩
          · go_wp2
            go_roundw
            case rel => exact ⟨p + 1, hlt, by go_num, HNX.out (fun h => dst_none (by rw [HZ.out]; omega) (by have := h.2.2; rw [HEG.out] at this; exact this)), HBE⟩
            case measure => simp [intOf]; omega
      · have hne : ((f2 : Int) == (f : Int)) = false := by simpa using hf
        have HF := Lib.hid hf
        clear hf
        go_wp2
        go_quiet (fail)
        go_wp2
        go_roundw
        case rel => exact ⟨p + 1, hlt, by go_num, HNX.out (fun h => HF.out (by have := h.1; rw [HEG.out] at this; exact this)), Lib.hid (bdrewN HB.out _)⟩
        case measure => simp [intOf]; omega
    · have hpl : p = l.length := by omega
      subst hpl
      clear c0 c1
      go_wp2
      go_ret
      exact ⟨false, rfl, ⟨fun h => absurd h (by decide), fun ⟨j, hj, hs⟩ => absurd hs (HNO.out j hj)⟩, by rw [← HB1.out]; exact HBW.out⟩
end Go.Proofs.Ytjifpjfinffamaa
