/- Texts R23, laid together. -/
import Derived.Test.YtjifpjfinffamaaZ24
section
namespace Go.Proofs.Ytjifpjfinffamaa
open Go.RowKit
theorem acell_len (L : List Acc) : (L.flatMap acell).length = L.length * 5 := by
  induction L with
  | nil => rfl
  | cons a L ih =>
    rw [List.flatMap_cons, List.length_append, ih, List.length_cons]
    show 5 + _ = _
    omega
set_option linter.unusedSimpArgs false in
set_option maxRecDepth 100000 in
set_option maxHeartbeats 12800000 in
theorem law18_good (A : Option Addr) (cap : Nat) (l : List Ev) (w : World) (hlg : ¬ 400 < l.length) (hk : chk ss0 l 0 = (-1, 0)) (hc : EvR w w.heap.size A l) :
    Calls Try.prog 9 #[.slice A l.length cap] w fun e w' => e = .returned (.bool true) ∧ Below w.heap.size w w' := by
  have d1 : ¬ (400 : Int) < (l.length : Int) := by omega
  have hll : l.length ≤ 1099511627776 := by omega
  have hl1 : l.length ≤ 1000 := by omega
  have HHB := Lib.hid (HBk.of hll hk)
  have hxl : (accL l (wBl l) l.length).length ≤ l.length := accL_len _
  have hrl : (raL l (wBl l) (wLk l)).length ≤ 1000000 := by
    have h := rr_len (d := ac0) (f := fun a b => a.ad == b.ad && raceF l (wBl l) (wLk l) a b) (g := Acc.ev) (L := accL l (wBl l) l.length) (accL l (wBl l) l.length).length
    have h2 : (accL l (wBl l) l.length).length * (accL l (wBl l) l.length).length ≤ 1000 * 1000 := Nat.mul_le_mul (by omega) (by omega)
    exact Nat.le_trans h (by omega)
  have HA := Lib.hid (fun A cap W hc => accOK hl1 hk A cap W hc)
  have HR := Lib.hid (fun A cap W hc => racOK hl1 hk A cap W hc)
  have HQ := Lib.hid (fun A cap W hc => quiOK hl1 hk A cap W hc)
  have HWR := Lib.hid (fun W hc => wrong15_any A cap l W hll hc)
  have HWV := Lib.hid (fun W hc => refWeave_any A cap l W hl1 hk hc)
  have HRA := Lib.hid (fun hi gW W h hB hhi hc => refAcc_any hi gW l (wBl l) (wLk l) A cap W h hB hhi hc hl1)
  have HRR := Lib.hid (fun hi gW W h hB hhi hc => refRac_any hi gW l (wBl l) (wLk l) A cap W h hB hhi hc hl1)
  have HC := Lib.hid hc
  have hcode : (chk ss0 l 0).2 = 0 := by rw [hk]
  rw [hcode] at HWR
  clear hlg hc hcode hk
  generalize accL l (wBl l) l.length = X at *
  generalize raL l (wBl l) (wLk l) = Y at *
  have HXL := Lib.hid hxl
  clear hxl
  generalize hqb : decide (Y.length = 0) = qb at *
  have HQB : Hid (((Y.length : Int) == 0) = qb) := by
    show ((Y.length : Int) == 0) = qb
    rw [← hqb]
    by_cases h : Y.length = 0
    · rw [h]; rfl
    · have h2 : ((Y.length : Int) == 0) = false := by simpa using h
      rw [h2, decide_eq_false h]
  clear hqb
  go_enter Try.func9, Try.ntmps9
  go_wp2_with (go_at_call 44; refine halt_ ?_)
  refine Halt_.go ?_
  refine (lent18_any A cap l w hll HC.out).mono ?_
  rintro e w1 ⟨g, c1, rfl, hL, hb⟩
  have HL := Lib.hid hL
  have HC1 := Lib.hid ((HC.out.below hb).more hb.size)
  have HB := Lib.hid hb
  clear hL hb HC
  go_wp2_with (go_at_call 14; refine halt_ ?_)
  refine Halt_.go ?_
  refine (HWR.out w1 HC1.out).mono ?_
  rintro e w2 ⟨rfl, hb⟩
  have HL2 := Lib.hid (HL.out.below HL.out.2.1 hb)
  have HC2 := Lib.hid ((HC1.out.below hb).more hb.size)
  have HB2 := Lib.hid (HB.out.trans (hb.mono HB.out.size))
  clear hb HL HC1 HB
  go_wp2_with (go_at_call 45; refine halt_ ?_)
  refine Halt_.go ?_
  refine (HA.out _ _ w2 HL2.out.reads).mono ?_
  rintro e w3 ⟨A1, c2, rfl, ho, hb⟩
  have HBW2 := HB2.out.size
  have HL3 := Lib.hid (HL2.out.below HL2.out.2.1 hb)
  have HC3 := Lib.hid ((HC2.out.below hb).more hb.size)
  have HB3 := Lib.hid (HB2.out.trans (hb.mono HB2.out.size))
  have hsz3 := hb.size
  clear hb HL2 HC2 HB2
  have HO1 := Lib.hid ho
  have HLT : Hid (∀ g, A1 = some ⟨g, 0, none⟩ → g < w3.heap.size) := fun g hg => (World.ownsRow.lt ho g (by rw [hg]; rfl)).2
  have HBW := Lib.hid HBW2
  clear ho HBW2
  go_wp2_with (go_at_call 46; refine halt_ ?_)
  refine Halt_.go ?_
  refine (HR.out _ _ w3 HL3.out.reads).mono ?_
  rintro e w4 ⟨A2, c3, rfl, ho, hb⟩
  have ho1 : OwnA w4 w2.heap.size A1 c2 X := own_below HO1.out hb
  have HL4 := Lib.hid (HL3.out.below HL3.out.2.1 hb)
  have HC4 := Lib.hid ((HC3.out.below hb).more hb.size)
  have HB4 := Lib.hid (HB3.out.trans (hb.mono HB3.out.size))
  have hsz4 := hb.size
  clear hb HL3 HC3 HB3
  have HO1' := Lib.hid ho1
  have HO2 := Lib.hid ho
  have HLT2 : Hid (∀ g, A2 = some ⟨g, 0, none⟩ → g < w4.heap.size) := fun g hg => (World.ownsRow.lt ho g (by rw [hg]; rfl)).2
  have HBW3 := Lib.hid (Nat.le_trans HBW.out hsz3)
  clear ho ho1 HO1
  go_wp2_with (go_at_call 45; refine halt_ ?_)
  refine Halt_.go ?_
  refine (HA.out _ _ w4 HL4.out.reads).mono ?_
  rintro e w5 ⟨A3, c4, rfl, ho, hb⟩
  have ho1 : OwnA w5 w2.heap.size A1 c2 X := own_below HO1'.out hb
  have ho2 : OwnR2 w5 w3.heap.size A2 c3 Y := own_below HO2.out hb
  have HL5 := Lib.hid (HL4.out.below HL4.out.2.1 hb)
  have HC5 := Lib.hid ((HC4.out.below hb).more hb.size)
  have HB5 := Lib.hid (HB4.out.trans (hb.mono HB4.out.size))
  have hsz5 := hb.size
  clear hb HL4 HC4 HB4
  have HO1 := Lib.hid ho1
  have HO2' := Lib.hid ho2
  have HO3 := Lib.hid ho
  clear ho ho1 ho2 HO1' HO2
  go_wp2_with (go_at_call 46; refine halt_ ?_)
  refine Halt_.go ?_
  refine (HR.out _ _ w5 HL5.out.reads).mono ?_
  rintro e w6 ⟨A4, c5, rfl, ho, hb⟩
  have hall : OwnA w6 w2.heap.size A1 c2 X ∧ OwnR2 w6 w3.heap.size A2 c3 Y ∧ OwnA w6 w4.heap.size A3 c4 X ∧ OwnR2 w6 w5.heap.size A4 c5 Y := ⟨own_below HO1.out hb, own_below HO2'.out hb, own_below HO3.out hb, ho⟩
  have HL6 := Lib.hid (HL5.out.below HL5.out.2.1 hb)
  have HC6 := Lib.hid ((HC5.out.below hb).more hb.size)
  have HB6 := Lib.hid (HB5.out.trans (hb.mono HB5.out.size))
  have hsz6 := hb.size
  clear hb HL5 HC5 HB5
  have HALL := Lib.hid hall
  clear ho hall HO1 HO2' HO3
  go_wp2_with (go_at_call 47; refine halt_ ?_)
  refine Halt_.go ?_
  refine (HQ.out _ _ w6 HL6.out.reads).mono ?_
  rintro e w7 ⟨rfl, hb⟩
  have hall : OwnA w7 w2.heap.size A1 c2 X ∧ OwnR2 w7 w3.heap.size A2 c3 Y ∧ OwnA w7 w4.heap.size A3 c4 X ∧ OwnR2 w7 w5.heap.size A4 c5 Y := ⟨own_below HALL.out.1 hb, own_below HALL.out.2.1 hb, own_below HALL.out.2.2.1 hb, own_below HALL.out.2.2.2 hb⟩
  have HL7 := Lib.hid (HL6.out.below HL6.out.2.1 hb)
  have HC7 := Lib.hid ((HC6.out.below hb).more hb.size)
  have HB7 := Lib.hid (HB6.out.trans (hb.mono HB6.out.size))
  have hsz7 := hb.size
  clear hb HL6 HC6 HB6
  have HAL7 := Lib.hid hall
  clear hall HALL
  have e2 : ((0 : Int) != 0) = false := by decide
  go_wp2_with (go_at_call 48; refine halt_ ?_)
  refine Halt_.go ?_
  refine (kept18_any A g c1 cap _ l w7 hll HL7.out HC7.out).mono ?_
  rintro e w8 ⟨rfl, m, rfl⟩
  have hall : OwnA (w7.drewN m) w2.heap.size A1 c2 X ∧ OwnR2 (w7.drewN m) w3.heap.size A2 c3 Y ∧ OwnA (w7.drewN m) w4.heap.size A3 c4 X ∧ OwnR2 (w7.drewN m) w5.heap.size A4 c5 Y := HAL7.out
  have HAL8 := Lib.hid hall
  have HB8 := Lib.hid (bdrewN HB7.out m)
  have HC8 : Hid (EvR (w7.drewN m) (w7.drewN m).heap.size A l) := HC7
  have hsz8 : w6.heap.size ≤ (w7.drewN m).heap.size := hsz7
  clear HL7 HC7 HB7 HAL7 hall hsz7
  generalize w7.drewN m = w8 at *
  go_wp2_with (go_at_call 49; refine halt_ ?_)
  refine Halt_.go ?_
  refine (HWV.out w8 HC8.out).mono ?_
  rintro e w9 ⟨gW, rfl, hdr, hb⟩
  have hall : OwnA w9 w2.heap.size A1 c2 X ∧ OwnR2 w9 w3.heap.size A2 c3 Y ∧ OwnA w9 w4.heap.size A3 c4 X ∧ OwnR2 w9 w5.heap.size A4 c5 Y := ⟨own_below HAL8.out.1 hb, own_below HAL8.out.2.1 hb, own_below HAL8.out.2.2.1 hb, own_below HAL8.out.2.2.2 hb⟩
  have HAL9 := Lib.hid hall
  have HDR := Lib.hid hdr
  have HC9 := Lib.hid ((HC8.out.below hb).more hb.size)
  have HB9 := Lib.hid (HB8.out.trans (hb.mono HB8.out.size))
  have hsz9 := hb.size
  clear hall hdr hb HAL8 HC8 HB8
  go_wp2_with (go_at_call 50; refine halt_ ?_)
  refine Halt_.go ?_
  refine (HRA.out _ _ w9 HDR.out HHB.out (Nat.le_refl _) HC9.out).mono ?_
  rintro e w10 ⟨A5, c6, rfl, ho, hb⟩
  have hall : (OwnA w10 w2.heap.size A1 c2 X ∧ OwnR2 w10 w3.heap.size A2 c3 Y ∧ OwnA w10 w4.heap.size A3 c4 X ∧ OwnR2 w10 w5.heap.size A4 c5 Y) ∧ OwnA w10 w9.heap.size A5 c6 X := ⟨⟨own_below HAL9.out.1 hb, own_below HAL9.out.2.1 hb, own_below HAL9.out.2.2.1 hb, own_below HAL9.out.2.2.2 hb⟩, ho⟩
  have HAL10 := Lib.hid hall
  have HDR10 := Lib.hid (HDR.out.below hb)
  have HC10 := Lib.hid ((HC9.out.below hb).more hb.size)
  have HB10 := Lib.hid (HB9.out.trans (hb.mono HB9.out.size))
  have hsz10 := hb.size
  clear hall ho hb HAL9 HC9 HB9 HDR
  go_wp2_with (go_at_call 51; refine halt_ ?_)
  refine Halt_.go ?_
  refine (HRR.out _ _ w10 HDR10.out HHB.out hsz10 HC10.out).mono ?_
  rintro e w11 ⟨A6, c7, rfl, ho, hb⟩
  have hall : (OwnA w11 w2.heap.size A1 c2 X ∧ OwnR2 w11 w3.heap.size A2 c3 Y ∧ OwnA w11 w4.heap.size A3 c4 X ∧ OwnR2 w11 w5.heap.size A4 c5 Y) ∧ OwnA w11 w9.heap.size A5 c6 X ∧ OwnR2 w11 w10.heap.size A6 c7 Y := ⟨⟨own_below HAL10.out.1.1 hb, own_below HAL10.out.1.2.1 hb, own_below HAL10.out.1.2.2.1 hb, own_below HAL10.out.1.2.2.2 hb⟩, own_below HAL10.out.2 hb, ho⟩
  have HAL := Lib.hid hall
  have HB11 := Lib.hid (HB10.out.trans (hb.mono HB10.out.size))
  have hsz11 := hb.size
  clear hall ho hb HAL10 HC10 HB10 HDR10 HRA HRR HWV HA HR HQ HWR
  go_wp2_with (go_at_call 52; refine halt_ ?_)
  refine Halt_.go ?_
  refine (sameA_any A1 A5 c2 c6 X w11 HAL.out.1.1.rd HAL.out.2.1.rd (by have := HXL.out; omega)).mono ?_
  rintro e w12 ⟨rfl, m2, rfl⟩
  have HAL12 : Hid ((OwnA (w11.drewN m2) w2.heap.size A1 c2 X ∧ OwnR2 (w11.drewN m2) w3.heap.size A2 c3 Y ∧ OwnA (w11.drewN m2) w4.heap.size A3 c4 X ∧ OwnR2 (w11.drewN m2) w5.heap.size A4 c5 Y) ∧ OwnA (w11.drewN m2) w9.heap.size A5 c6 X ∧ OwnR2 (w11.drewN m2) w10.heap.size A6 c7 Y) := HAL
  have HB12 := Lib.hid (bdrewN HB11.out m2)
  have hsz12 : w10.heap.size ≤ (w11.drewN m2).heap.size := hsz11
  clear HAL HB11 hsz11
  generalize w11.drewN m2 = w12 at *
  go_wp2_with (go_at_call 53; refine halt_ ?_)
  refine Halt_.go ?_
  refine (sameR_any A2 A6 c3 c7 Y w12 HAL12.out.1.2.1.rd HAL12.out.2.2.rd (by omega)).mono ?_
  rintro e w13 ⟨rfl, m3, rfl⟩
  have HAL13 : Hid ((OwnA (w12.drewN m3) w2.heap.size A1 c2 X ∧ OwnR2 (w12.drewN m3) w3.heap.size A2 c3 Y ∧ OwnA (w12.drewN m3) w4.heap.size A3 c4 X ∧ OwnR2 (w12.drewN m3) w5.heap.size A4 c5 Y) ∧ OwnA (w12.drewN m3) w9.heap.size A5 c6 X ∧ OwnR2 (w12.drewN m3) w10.heap.size A6 c7 Y) := HAL12
  have HB13 := Lib.hid (bdrewN HB12.out m3)
  have hsz13 : w10.heap.size ≤ (w12.drewN m3).heap.size := hsz12
  clear HAL12 HB12 hsz12
  generalize w12.drewN m3 = w13 at *
  obtain rfl := HQB.out
  have e3 : (((Y.length : Int) == 0) != ((Y.length : Int) == 0)) = false := by simp
  clear HQB
  go_wp2
  go_loopw [17] (fun i wr => ∃ k : Nat, k ≤ X.length ∧ i = .int .i64 k ∧ Hid (Kp w13 wr w2.heap.size w3.heap.size) ∧ Hid (∀ g, A1 = some ⟨g, 0, none⟩ → WO w13 wr w2.heap.size w3.heap.size g (k * 5))) (fun i _ => X.length - (intOf i).toNat)
  case atStart => exact ⟨0, Nat.zero_le _, rfl, Kp.refl _ _ _, Lib.hid (fun g _ => by rw [Nat.zero_mul]; exact WO.start _ _ _ _)⟩
  case round =>
    obtain ⟨k, hkn, rfl, HKP, HWO⟩ := hrel
    have hxb : X.length ≤ 1000 := Nat.le_trans HXL.out hl1
    by_cases hlt : k < X.length
    · obtain ⟨g1, cap1, hv, hbg, hlt1⟩ := World.ownsRow.form HAL13.out.1.1 (by omega)
      have hA1 : A1 = some ⟨g1, 0, none⟩ := by injection hv
      subst hA1
      have hwo := HWO.out g1 rfl
      have hg1 : g1 < w3.heap.size := HLT.out g1 rfl
      have hcl : ∀ t, t < 5 → (∃ v, wr.cell? ⟨g1, k * 5 + t, none⟩ = some v) ∧ wr.frozen? ⟨g1, k * 5 + t, none⟩ = false := fun t ht => by
        refine ⟨?_, by rw [hwo.fz]; exact World.ownsRow.frozenAt HAL13.out.1.1 _⟩
        rw [hwo.cell (k * 5 + t) (by omega), World.ownsRow.cellAt HAL13.out.1.1 (k * 5 + t) (by omega)]
        exact ⟨_, List.getElem?_eq_getElem (by
          have : (X.flatMap acell).length = X.length * 5 := acell_len X
          omega)⟩
      obtain ⟨⟨v0, s0⟩, f0⟩ := hcl 0 (by omega)
      obtain ⟨⟨v1, s1⟩, f1⟩ := hcl 1 (by omega)
      obtain ⟨⟨v2, s2⟩, f2⟩ := hcl 2 (by omega)
      obtain ⟨⟨v3, s3⟩, f3⟩ := hcl 3 (by omega)
      obtain ⟨⟨v4, s4⟩, f4⟩ := hcl 4 (by omega)
      rw [Nat.add_zero] at s0 f0
      have i1 : (0 : Int) ≤ (k : Int) := by omega
      have i2 : (k : Int) < (X.length : Int) := by omega
      have HW0 := Lib.hid hwo
      have HG := Lib.hid (And.intro hbg hg1)
      clear hcl hwo hv hbg hg1 hlt1
      go_wp2
      go_roundw
      case rel =>
        have h5 : ∀ v0 v1 v2 v3 v4, WO w13 (((((wr.setCell ⟨g1, k * 5, none⟩ v0).setCell ⟨g1, k * 5 + 1, none⟩ v1).setCell ⟨g1, k * 5 + 2, none⟩ v2).setCell ⟨g1, k * 5 + 3, none⟩ v3).setCell ⟨g1, k * 5 + 4, none⟩ v4) w2.heap.size w3.heap.size g1 ((k + 1) * 5) := fun v0 v1 v2 v3 v4 =>
          ((((HW0.out.set HG.out.1 HG.out.2 (j := k * 5) (m' := (k + 1) * 5) (by omega) (by omega) v0).set HG.out.1 HG.out.2 (by omega) (Nat.le_refl _) v1).set HG.out.1 HG.out.2 (by omega) (Nat.le_refl _) v2).set HG.out.1 HG.out.2 (by omega) (Nat.le_refl _) v3).set HG.out.1 HG.out.2 (by omega) (Nat.le_refl _) v4
        exact ⟨k + 1, hlt, by go_num, (h5 _ _ _ _ _).kp, fun g hg => by
          injection hg with hg
          injection hg with hg
          subst hg
          exact h5 _ _ _ _ _⟩
      case measure => simp [intOf]; omega
    · have k4 : ¬ (k : Int) < (X.length : Int) := by omega
      have HAL14 : Hid (OwnR2 wr w3.heap.size A2 c3 Y ∧ OwnA wr w4.heap.size A3 c4 X ∧ OwnR2 wr w5.heap.size A4 c5 Y ∧ OwnA wr w9.heap.size A5 c6 X ∧ OwnR2 wr w10.heap.size A6 c7 Y) := ⟨HKP.out.rac HAL13.out.1.2.1 (Nat.le_refl _), HKP.out.acc HAL13.out.1.2.2.1 (by omega), HKP.out.rac HAL13.out.1.2.2.2 (by omega), HKP.out.acc HAL13.out.2.1 (by omega), HKP.out.rac HAL13.out.2.2 (by omega)⟩
      have HB14 := Lib.hid (HKP.out.below HB13.out HBW.out)
      have hs14 : wr.heap.size = w13.heap.size := HKP.out.size
      have hsz14 : w10.heap.size ≤ wr.heap.size := by omega
      clear HWO HKP HAL13 HB13 hs14
      generalize wr = w14 at *
      go_wp2
      clear k4
      go_loopw [18] (fun i wr => ∃ k : Nat, k ≤ Y.length ∧ i = .int .i64 k ∧ Hid (Kp w14 wr w3.heap.size w4.heap.size) ∧ Hid (∀ g, A2 = some ⟨g, 0, none⟩ → WO w14 wr w3.heap.size w4.heap.size g (k * 2))) (fun i _ => Y.length - (intOf i).toNat)
      case atStart => exact ⟨0, Nat.zero_le _, rfl, Kp.refl _ _ _, Lib.hid (fun g _ => by rw [Nat.zero_mul]; exact WO.start _ _ _ _)⟩
      case round =>
        obtain ⟨k, hkn, rfl, HKP, HWO⟩ := hrel
        by_cases hlt : k < Y.length
        · obtain ⟨g1, cap1, hv, hbg, hlt1⟩ := World.ownsRow.form HAL14.out.1 (by omega)
          have hA1 : A2 = some ⟨g1, 0, none⟩ := by injection hv
          subst hA1
          have hwo := HWO.out g1 rfl
          have hg1 : g1 < w4.heap.size := HLT2.out g1 rfl
          have hcl : ∀ t, t < 2 → (∃ v, wr.cell? ⟨g1, k * 2 + t, none⟩ = some v) ∧ wr.frozen? ⟨g1, k * 2 + t, none⟩ = false := fun t ht => by
            refine ⟨?_, by rw [hwo.fz]; exact World.ownsRow.frozenAt HAL14.out.1 _⟩
            rw [hwo.cell (k * 2 + t) (by omega), World.ownsRow.cellAt HAL14.out.1 (k * 2 + t) (by omega)]
            exact ⟨_, List.getElem?_eq_getElem (by
              have : (Y.flatMap rcell).length = Y.length * 2 := rcell_len Y
              omega)⟩
          obtain ⟨⟨v0, s0⟩, f0⟩ := hcl 0 (by omega)
          obtain ⟨⟨v1, s1⟩, f1⟩ := hcl 1 (by omega)
          rw [Nat.add_zero] at s0 f0
          have i1 : (0 : Int) ≤ (k : Int) := by omega
          have i2 : (k : Int) < (Y.length : Int) := by omega
          have HW0 := Lib.hid hwo
          have HG := Lib.hid (And.intro hbg hg1)
          clear hcl hwo hv hbg hg1 hlt1
          go_wp2
          go_roundw
          case rel =>
            have h5 : ∀ v0 v1, WO w14 ((wr.setCell ⟨g1, k * 2, none⟩ v0).setCell ⟨g1, k * 2 + 1, none⟩ v1) w3.heap.size w4.heap.size g1 ((k + 1) * 2) := fun v0 v1 =>
              (HW0.out.set HG.out.1 HG.out.2 (j := k * 2) (m' := (k + 1) * 2) (by omega) (by omega) v0).set HG.out.1 HG.out.2 (by omega) (Nat.le_refl _) v1
            exact ⟨k + 1, hlt, by go_num, (h5 _ _).kp, fun g hg => by
              injection hg with hg
              injection hg with hg
              subst hg
              exact h5 _ _⟩
          case measure => simp [intOf]; omega
        · have k4 : ¬ (k : Int) < (Y.length : Int) := by omega
          have HAL15 : Hid (OwnA wr w4.heap.size A3 c4 X ∧ OwnR2 wr w5.heap.size A4 c5 Y ∧ OwnA wr w9.heap.size A5 c6 X ∧ OwnR2 wr w10.heap.size A6 c7 Y) := ⟨HKP.out.acc HAL14.out.2.1 (by omega), HKP.out.rac HAL14.out.2.2.1 (by omega), HKP.out.acc HAL14.out.2.2.2.1 (by omega), HKP.out.rac HAL14.out.2.2.2.2 (by omega)⟩
          have HB15 := Lib.hid (HKP.out.below HB14.out HBW3.out)
          clear HWO HKP HAL14 HB14 hsz14
          generalize wr = w15 at *
          go_wp2_with (go_at_call 52; refine halt_ ?_)
          refine Halt_.go ?_
          refine (sameA_any A3 A5 c4 c6 X w15 HAL15.out.1.rd HAL15.out.2.2.1.rd (by have := HXL.out; omega)).mono ?_
          rintro e w16 ⟨rfl, m4, rfl⟩
          have HAL16 : Hid (OwnR2 (w15.drewN m4) w5.heap.size A4 c5 Y ∧ OwnR2 (w15.drewN m4) w10.heap.size A6 c7 Y) := ⟨HAL15.out.2.1, HAL15.out.2.2.2⟩
          have HB16 := Lib.hid (bdrewN HB15.out m4)
          clear HAL15 HB15
          generalize w15.drewN m4 = w16 at *
          go_wp2_with (go_at_call 53; refine halt_ ?_)
          refine Halt_.go ?_
          refine (sameR_any A4 A6 c5 c7 Y w16 HAL16.out.1.rd HAL16.out.2.rd (by omega)).mono ?_
          rintro e w17 ⟨rfl, m5, rfl⟩
          have HB17 := Lib.hid (bdrewN HB16.out m5)
          clear HAL16 HB16
          generalize w16.drewN m5 = w17 at *
          go_wp2_with (go_at_call 43; refine halt_ ?_)
          refine Halt_.go ?_
          refine (known18_any _).mono ?_
          rintro e w18 ⟨rfl, hb⟩
          have HF := Lib.hid (HB17.out.trans (hb.mono HB17.out.size))
          clear hb HB17
          go_wp2
          go_ret
          exact ⟨rfl, HF.out⟩
theorem law18_any (A : Option Addr) (cap : Nat) (l : List Ev) (w : World) (hc : EvR w w.heap.size A l) :
    Calls Try.prog 9 #[.slice A l.length cap] w fun e w' => e = .returned (.bool true) ∧ Below w.heap.size w w' := by
  by_cases hlg : 400 < l.length
  · exact law18_long A cap l w hlg
  · rcases chk_cases l 0 ss0 with hk | hk
    · exact law18_good A cap l w hlg hk hc
    · exact law18_bad A cap l w hlg hk hc
end Go.Proofs.Ytjifpjfinffamaa
end
