/- Walks: container/heap's up and Init, over graph.ready. -/
import Derived.Test.YtjifpjfinffamaaH2
namespace Go.Proofs.Ytjifpjfinffamaa
open Go.RowKit

def UpEnds (p : Nat) (v : Value) (xs : List Int) (w : World) (e : Ending) (w' : World) : Prop :=
  ∃ (ys : List Int), e = .returned (.tuple #[]) ∧ HS w' p v ys ∧ Moves w w' p v v ∧ ys.Perm xs ∧ HP ys xs.length 0

set_option linter.unusedSimpArgs false in
set_option maxRecDepth 100000 in
set_option maxHeartbeats 1600000 in
theorem up_any (p : Nat) (A : Option Addr) (L c : Nat) (xs : List Int) (j0 : Nat) (w : World) (hs : HS w p (.slice A L c) xs) (hlen : L ≤ 4294967296) (hj : j0 < L) (hp : HPu xs L j0) :
    Calls Try.prog 105 #[.iface 126 (.pointer (some ⟨p, 0, none⟩)), .int .i64 j0] w (UpEnds p (.slice A L c) xs w) := by
  have hxl := hs.len
  have HXL := Lib.hid hxl
  have HSS := Lib.hid hs
  have HPP := Lib.hid hp
  clear hs hp hxl
  go_enter Try.func105, Try.ntmps105
  go_wp2
  go_loopw [1] (fun s wr => ∃ (j : Nat) (ys : List Int), s = .int .i64 j ∧ j < L ∧ HS wr p (.slice A L c) ys ∧ Hid (Moves w wr p (.slice A L c) (.slice A L c)) ∧ Hid (ys.Perm xs) ∧ Hid (HPu ys L j)) (fun s _ => (intOf s).toNat)
  case atStart => exact ⟨j0, xs, rfl, hj, HSS.out, Lib.hid (Moves.refl _ _ _), Lib.hid (List.Perm.refl _), HPP⟩
  case round =>
    clear HSS HPP
    obtain ⟨j, ys, rfl, hjL, hs, HM, HPe, HD⟩ := hrel
    have hyl : ys.length = L := hs.len
    have hHYL := Lib.hid hyl
    rcases Nat.eq_zero_or_pos j with h0 | h0
    · subst h0
      go_wp2
      go_end0
      refine ⟨ys, rfl, hs, HM.out, HPe.out, ?_⟩
      rw [HXL.out]
      exact HD.out.stop fun p hp => by omega
    · obtain ⟨i, hi⟩ : ∃ i, i = (j - 1) / 2 := ⟨_, rfl⟩
      have HI := Lib.hid hi
      have k1 : ((j : Int) - 1).tdiv 2 = (i : Int) := by rw [Int.tdiv_eq_ediv_of_nonneg (by omega)]; omega
      have k2 : ¬ (i : Int) = (j : Int) := by omega
      have hij : i < j := by omega
      obtain ⟨g, rfl, hpg, hcs, hfs⟩ := hs.open2 (by omega)
      have hcell := hs.cell
      have HSS := Lib.hid hs
      have x1 := hcs j (by omega)
      have x0 := hcs i (by omega)
      have hm := meth_less p 0 wr _ _ _ hcell
      clear hs hcs hfs hi
      go_wp2_with (go_at_call 185; refine (less_any g L c _ _ _ _ _ (by omega) (by omega) (by assumption) (by assumption)).mono ?_; rintro e w1 ⟨rfl, rfl⟩)
      · have hlt : ¬ nth ys j < nth ys i := by
          have h : ((i : Int) == (j : Int)) = true ∨ (!decide (nth ys j < nth ys i)) = true := by assumption
          rcases h with h | h
          · simp at h; omega
          · simpa using h
        go_end0
        refine ⟨ys, rfl, HSS.out.drew, HM.out.trans (Moves.drew _ _ _), HPe.out, ?_⟩
        rw [HXL.out]
        refine HD.out.stop fun p hp => ?_
        have := HI.out
        obtain rfl : p = i := by omega
        omega
      · have hlt : nth ys j < nth ys i := by
          have h : ((i : Int) == (j : Int)) = false ∧ (!decide (nth ys j < nth ys i)) = false := by assumption
          simpa using h.2
        have hyl2 := hHYL.out
        have hjy : j < ys.length := by omega
        have hiy : i < ys.length := by omega
        have hji : j = 2 * i + 1 ∨ j = 2 * i + 2 := by have := HI.out; omega
        have Q1 := Lib.hid ((swp_perm hiy hjy).trans HPe.out)
        have Q2 := Lib.hid (HD.out.step (by omega) hjL hji hlt)
        clear hjy hiy hji hlt hyl2
        have hsw := meth_swap p 0 wr.drew _ _ _ hcell
        rw [hsw]
        go_simp
        go_at_call 186
        refine (swap_hs p g c i j L ys _ hHYL.out HSS.out.drew (by omega) (by omega)).mono ?_
        rintro e w1 ⟨rfl, hs2, hM2⟩
        have Q3 := Lib.hid ((HM.out.trans (Moves.drew _ _ _)).trans hM2)
        have R5 := Lib.hid hs2
        clear hM2 hs2
        go_wp2
        go_roundw
        case rel => exact ⟨i, _, rfl, by omega, R5.out, Q3, Q1, Q2⟩
        case measure => simp [intOf]; omega

def InitEnds (p : Nat) (v : Value) (xs : List Int) (w : World) (e : Ending) (w' : World) : Prop :=
  ∃ (ys : List Int), e = .returned (.tuple #[]) ∧ HS w' p v ys ∧ Moves w w' p v v ∧ ys.Perm xs ∧ HP ys xs.length 0

set_option linter.unusedSimpArgs false in
set_option maxRecDepth 100000 in
set_option maxHeartbeats 1600000 in
theorem init_any (p : Nat) (A : Option Addr) (L c : Nat) (xs : List Int) (w : World) (hs : HS w p (.slice A L c) xs) (hlen : L ≤ 4294967296) :
    Calls Try.prog 81 #[.iface 126 (.pointer (some ⟨p, 0, none⟩))] w (InitEnds p (.slice A L c) xs w) := by
  have hxl := hs.len
  have HXL := Lib.hid hxl
  have HSS := Lib.hid hs
  have hcell := hs.cell
  have hm := meth_len p 0 w _ _ _ hcell
  have k1 : ((L : Int)).tdiv 2 = ((L / 2 : Nat) : Int) := by rw [Int.tdiv_eq_ediv_of_nonneg (by omega)]; omega
  obtain ⟨m, hmm⟩ : ∃ m, m = L / 2 := ⟨_, rfl⟩
  rw [← hmm] at k1
  have hmL : m ≤ L := by omega
  have h0 : HP xs L m := HP.none_ (by omega)
  have H0 := Lib.hid h0
  clear hs hxl hcell hmm h0
  go_enter Try.func81, Try.ntmps81
  go_wp2_with (go_at_call 82; refine (len_any A L c _).mono ?_; rintro e w1 ⟨rfl, rfl⟩)
  go_loopw [3] (fun s wr => ∃ (k : Nat) (ys : List Int), s = .int .i64 ((k : Int) - 1) ∧ k ≤ m ∧ HS wr p (.slice A L c) ys ∧ Hid (Moves w1 wr p (.slice A L c) (.slice A L c)) ∧ Hid (ys.Perm xs) ∧ Hid (HP ys L k)) (fun s _ => (intOf s + 1).toNat)
  case atStart => exact ⟨m, xs, rfl, Nat.le_refl _, HSS.out, Lib.hid (Moves.refl _ _ _), Lib.hid (List.Perm.refl _), H0⟩
  case round =>
    clear HSS H0 hm
    obtain ⟨k, ys, rfl, hkm, hs, HM, HPe, HD⟩ := hrel
    have HSS := Lib.hid hs
    have hyl := hs.len
    clear hs
    cases k with
    | zero =>
      go_wp2
      go_end0
      exact ⟨ys, rfl, HSS.out, HM.out, HPe.out, by rw [HXL.out]; exact HD.out⟩
    | succ k =>
      have e1 : ((k + 1 : Nat) : Int) - 1 = (k : Int) := by omega
      have HY := Lib.hid hyl
      rw [e1]
      clear hyl e1
      go_wp2_with (go_at_call 104; refine (down_any p A L c ys k L k _ HSS.out (Nat.le_refl _) hlen (by omega) (Nat.le_refl _) HD.out.start).mono ?_; rintro e w2 ⟨zs, b, rfl, hs2, hM2, hP2, hT2, hD2⟩)
      have R1 := Lib.hid hs2
      have R2 := Lib.hid (HM.out.trans hM2)
      have R3 := Lib.hid (hP2.trans HPe.out)
      have R4 := Lib.hid hD2
      clear hs2 hM2 hP2 hT2 hD2
      go_wp2
      go_roundw
      case rel => exact ⟨k, zs, rfl, by omega, R1.out, R2, R3, R4⟩
      case measure => simp [intOf]
end Go.Proofs.Ytjifpjfinffamaa
