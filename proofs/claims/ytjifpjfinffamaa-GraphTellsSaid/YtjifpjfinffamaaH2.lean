/- Walks: container/heap's down and up, over graph.ready. -/
import Derived.Test.YtjifpjfinffamaaH1
namespace Go.Proofs.Ytjifpjfinffamaa
open Go.RowKit

/-- what 'down' leaves -/
def DownEnds (p : Nat) (v : Value) (xs : List Int) (n a : Nat) (w : World) (e : Ending) (w' : World) : Prop :=
  ∃ (ys : List Int) (b : Bool), e = .returned (.bool b) ∧ HS w' p v ys ∧ Moves w w' p v v ∧ ys.Perm xs ∧ (∀ k, n ≤ k → nth ys k = nth xs k) ∧ HP ys n a

set_option linter.unusedSimpArgs false in
set_option maxRecDepth 100000 in
set_option maxHeartbeats 1600000 in
theorem down_any (p : Nat) (A : Option Addr) (L c : Nat) (xs : List Int) (i0 n a : Nat) (w : World) (hs : HS w p (.slice A L c) xs) (hn : n ≤ L) (hlen : L ≤ 4294967296) (hi : i0 ≤ n) (ha : a ≤ i0) (hp : HPd xs n a i0) :
    Calls Try.prog 104 #[.iface 126 (.pointer (some ⟨p, 0, none⟩)), .int .i64 i0, .int .i64 n] w (DownEnds p (.slice A L c) xs n a w) := by
  have HSS := Lib.hid hs
  have HPP := Lib.hid hp
  clear hs hp
  go_enter Try.func104, Try.ntmps104
  go_wp2
  go_loopw [7] (fun s wr => ∃ (i : Nat) (ys : List Int), s = .int .i64 i ∧ i ≤ n ∧ a ≤ i ∧ HS wr p (.slice A L c) ys ∧ Hid (Moves w wr p (.slice A L c) (.slice A L c)) ∧ Hid (ys.Perm xs) ∧ Hid (∀ k, n ≤ k → nth ys k = nth xs k) ∧ Hid (HPd ys n a i)) (fun s _ => n - (intOf s).toNat)
  case atStart => exact ⟨i0, xs, rfl, hi, ha, HSS.out, Lib.hid (Moves.refl _ _ _), Lib.hid (List.Perm.refl _), Lib.hid fun _ _ => rfl, HPP⟩
  case round =>
    clear HSS HPP
    obtain ⟨i, ys, rfl, hin, hai, hs, HM, HPe, HT, HD⟩ := hrel
    have hyl : ys.length = L := hs.len
    have hHYL := Lib.hid hyl
    obtain ⟨j1, hj1⟩ : ∃ j1, j1 = 2 * i + 1 := ⟨_, rfl⟩
    obtain ⟨j2, hj2⟩ : ∃ j2, j2 = j1 + 1 := ⟨_, rfl⟩
    have k1 : 2 * (i : Int) + 1 = (j1 : Int) := by omega
    have k2 : (j1 : Int) + 1 = (j2 : Int) := by omega
    have HJ := Lib.hid hj1
    have HJ2 := Lib.hid hj2
    by_cases h1 : j1 < n
    · obtain ⟨g, rfl, hpg, hcs, hfs⟩ := hs.open2 (by omega)
      have hcell := hs.cell
      have HSS := Lib.hid hs
      have x1 := hcs j1 (by omega)
      have x0 := hcs i (by omega)
      have hcs2 := Lib.hid hcs
      have hm := meth_less p 0 wr _ _ _ hcell
      have hm2 := meth_less p 0 wr.drew _ _ _ hcell
      have hm3 := meth_less p 0 wr.drew.drew _ _ _ hcell
      have hjn : j1 < ys.length := by omega
      have hin2 : i < ys.length := by omega
      clear hs hcs hfs hj1 hj2
      have step : ∀ (j : Nat) (W w1 : World), Hid (j < n) → Hid (j = 2 * i + 1 ∨ j = 2 * i + 2) → Hid (¬ nth ys i ≤ nth ys j) → Hid (∀ c', c' < n → (c' = 2 * i + 1 ∨ c' = 2 * i + 2) → nth ys j ≤ nth ys c') →
          Hid (Moves wr W p (.slice (some ⟨g, 0, none⟩) L c) (.slice (some ⟨g, 0, none⟩) L c)) → Hid (Moves W w1 p (.slice (some ⟨g, 0, none⟩) L c) (.slice (some ⟨g, 0, none⟩) L c)) →
          Hid (Moves w w1 p (.slice (some ⟨g, 0, none⟩) L c) (.slice (some ⟨g, 0, none⟩) L c)) ∧ Hid ((swp ys i j).Perm xs) ∧ Hid (∀ k, n ≤ k → nth (swp ys i j) k = nth xs k) ∧ Hid (HPd (swp ys i j) n a j) := by
        intro j W w1 hj hji hlt hmin hm1 hm2
        have hj' := hj.out
        have hl := hlt.out
        have hji' := hji.out
        refine ⟨Lib.hid ((HM.out.trans hm1.out).trans hm2.out), Lib.hid ((swp_perm hin2 (by omega)).trans HPe.out), Lib.hid fun k hk => ?_, Lib.hid (HD.out.step (by omega) hai hj.out hji.out (by omega) hmin.out)⟩
        rw [swp_nth hin2 (by omega), if_neg (by omega), if_neg (by omega)]
        exact HT.out k hk
      have HST := Lib.hid step
      clear step
      by_cases h2 : j2 < n
      · have x2 := hcs2.out j2 (by omega)
        go_wp2_with (go_at_call 185; refine (less_any g L c _ _ _ _ _ (by omega) (by omega) (by assumption) (by assumption)).mono ?_; rintro e w1 ⟨rfl, rfl⟩)
        · have q1 : nth ys i ≤ nth ys j2 := by
            have h : (!decide (nth ys j2 < nth ys i)) = true := by assumption
            simpa using h
          have q2 : nth ys j2 < nth ys j1 := by assumption
          go_ret
          refine ⟨ys, _, rfl, HSS.out.drew.drew, HM.out.trans ((Moves.drew _ _ _).trans (Moves.drew _ _ _)), HPe.out, HT.out, HD.out.stop ?_⟩
          intro c' hc' hpc
          have e1 := HJ.out
          have e2 := HJ2.out
          rcases hpc with e | e
          · obtain rfl : c' = j1 := by omega
            omega
          · obtain rfl : c' = j2 := by omega
            omega
        · have q1 : nth ys j2 < nth ys i := by
            have h : (!decide (nth ys j2 < nth ys i)) = false := by assumption
            simpa using h
          have q2 : nth ys j2 < nth ys j1 := by assumption
          have q3 : j2 = 2 * i + 1 ∨ j2 = 2 * i + 2 := by
            have e1 := HJ.out
            have e2 := HJ2.out
            omega
          have q4 : ∀ c', c' < n → (c' = 2 * i + 1 ∨ c' = 2 * i + 2) → nth ys j2 ≤ nth ys c' := by
            intro c' hc' hpc
            have e1 := HJ.out
            have e2 := HJ2.out
            rcases hpc with e | e
            · obtain rfl : c' = j1 := by omega
              omega
            · obtain rfl : c' = j2 := by omega
              omega
          have Q3 := Lib.hid q3
          have Q4 := Lib.hid q4
          have Q1 := Lib.hid (show ¬ nth ys i ≤ nth ys j2 by omega)
          clear q3 q4 q1 q2
          have hsw := meth_swap p 0 wr.drew.drew _ _ _ hcell
          go_wp2_with (go_at_call 186; refine (swap_hs p g c _ _ L ys _ hHYL.out HSS.out.drew.drew (by omega) (by omega)).mono ?_; rintro e w1 ⟨rfl, hs2, hM2⟩)
          obtain ⟨r1, r2, r3, r4⟩ := HST.out j2 _ _ (Lib.hid (by omega)) Q3 Q1 Q4 (Lib.hid ((Moves.drew _ _ _).trans (Moves.drew _ _ _))) (Lib.hid hM2)
          have R5 := Lib.hid hs2
          clear hM2 hs2
          go_wp2
          go_roundw
          case rel => exact ⟨j2, _, rfl, by omega, by have := Q3.out; omega, R5.out, r1, r2, r3, r4⟩
          case measure => have := Q3.out; simp [intOf]; omega
        · have q1 : nth ys i ≤ nth ys j1 := by
            have h : (!decide (nth ys j1 < nth ys i)) = true := by assumption
            simpa using h
          have q2 : nth ys j1 ≤ nth ys j2 := by assumption
          go_ret
          refine ⟨ys, _, rfl, HSS.out.drew.drew, HM.out.trans ((Moves.drew _ _ _).trans (Moves.drew _ _ _)), HPe.out, HT.out, HD.out.stop ?_⟩
          intro c' hc' hpc
          have e1 := HJ.out
          have e2 := HJ2.out
          rcases hpc with e | e
          · obtain rfl : c' = j1 := by omega
            omega
          · obtain rfl : c' = j2 := by omega
            omega
        · have q1 : nth ys j1 < nth ys i := by
            have h : (!decide (nth ys j1 < nth ys i)) = false := by assumption
            simpa using h
          have q2 : nth ys j1 ≤ nth ys j2 := by assumption
          have q3 : j1 = 2 * i + 1 ∨ j1 = 2 * i + 2 := by
            have e1 := HJ.out
            have e2 := HJ2.out
            omega
          have q4 : ∀ c', c' < n → (c' = 2 * i + 1 ∨ c' = 2 * i + 2) → nth ys j1 ≤ nth ys c' := by
            intro c' hc' hpc
            have e1 := HJ.out
            have e2 := HJ2.out
            rcases hpc with e | e
            · obtain rfl : c' = j1 := by omega
              omega
            · obtain rfl : c' = j2 := by omega
              omega
          have Q3 := Lib.hid q3
          have Q4 := Lib.hid q4
          have Q1 := Lib.hid (show ¬ nth ys i ≤ nth ys j1 by omega)
          clear q3 q4 q1 q2
          have hsw := meth_swap p 0 wr.drew.drew _ _ _ hcell
          go_wp2_with (go_at_call 186; refine (swap_hs p g c _ _ L ys _ hHYL.out HSS.out.drew.drew (by omega) (by omega)).mono ?_; rintro e w1 ⟨rfl, hs2, hM2⟩)
          obtain ⟨r1, r2, r3, r4⟩ := HST.out j1 _ _ (Lib.hid (by omega)) Q3 Q1 Q4 (Lib.hid ((Moves.drew _ _ _).trans (Moves.drew _ _ _))) (Lib.hid hM2)
          have R5 := Lib.hid hs2
          clear hM2 hs2
          go_wp2
          go_roundw
          case rel => exact ⟨j1, _, rfl, by omega, by have := Q3.out; omega, R5.out, r1, r2, r3, r4⟩
          case measure => have := Q3.out; simp [intOf]; omega
      · have hm9 := hm
        clear hm3
        go_wp2_with (go_at_call 185; refine (less_any g L c _ _ _ _ _ (by omega) (by omega) (by assumption) (by assumption)).mono ?_; rintro e w1 ⟨rfl, rfl⟩)
        · have q1 : nth ys i ≤ nth ys j1 := by
            have h : (!decide (nth ys j1 < nth ys i)) = true := by assumption
            simpa using h
          have q2 := h2
          go_ret
          refine ⟨ys, _, rfl, HSS.out.drew, HM.out.trans (Moves.drew _ _ _), HPe.out, HT.out, HD.out.stop ?_⟩
          intro c' hc' hpc
          have e1 := HJ.out
          have e2 := HJ2.out
          rcases hpc with e | e
          · obtain rfl : c' = j1 := by omega
            omega
          · obtain rfl : c' = j2 := by omega
            omega
        · have q1 : nth ys j1 < nth ys i := by
            have h : (!decide (nth ys j1 < nth ys i)) = false := by assumption
            simpa using h
          have q2 := h2
          have q3 : j1 = 2 * i + 1 ∨ j1 = 2 * i + 2 := by
            have e1 := HJ.out
            have e2 := HJ2.out
            omega
          have q4 : ∀ c', c' < n → (c' = 2 * i + 1 ∨ c' = 2 * i + 2) → nth ys j1 ≤ nth ys c' := by
            intro c' hc' hpc
            have e1 := HJ.out
            have e2 := HJ2.out
            rcases hpc with e | e
            · obtain rfl : c' = j1 := by omega
              omega
            · obtain rfl : c' = j2 := by omega
              omega
          have Q3 := Lib.hid q3
          have Q4 := Lib.hid q4
          have Q1 := Lib.hid (show ¬ nth ys i ≤ nth ys j1 by omega)
          clear q3 q4 q1 q2
          have hsw := meth_swap p 0 wr.drew _ _ _ hcell
          go_wp2_with (go_at_call 186; refine (swap_hs p g c _ _ L ys _ hHYL.out HSS.out.drew (by omega) (by omega)).mono ?_; rintro e w1 ⟨rfl, hs2, hM2⟩)
          obtain ⟨r1, r2, r3, r4⟩ := HST.out j1 _ _ (Lib.hid (by omega)) Q3 Q1 Q4 (Lib.hid (Moves.drew _ _ _)) (Lib.hid hM2)
          have R5 := Lib.hid hs2
          clear hM2 hs2
          go_wp2
          go_roundw
          case rel => exact ⟨j1, _, rfl, by omega, by have := Q3.out; omega, R5.out, r1, r2, r3, r4⟩
          case measure => have := Q3.out; simp [intOf]; omega
    · clear hj1 hj2
      go_wp2
      go_ret
      refine ⟨ys, _, rfl, hs, HM.out, HPe.out, HT.out, HD.out.stop ?_⟩
      intro c' hc' hpc
      have := HJ.out
      omega
end Go.Proofs.Ytjifpjfinffamaa
