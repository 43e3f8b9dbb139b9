/- Walk: WitnessBlocks [3] where the history can be. -/
import Derived.Test.YtjifpjfinffamaaYK
import Derived.Deep.CutRange
namespace Go.Proofs.Ytjifpjfinffamaa
open Go.RowKit

set_option linter.unusedSimpArgs false in
set_option maxRecDepth 100000 in
set_option maxHeartbeats 12800000 in
theorem law15_good (A : Option Addr) (cap : Nat) (l : List Ev) (a b : Int) (w : World) (hlg : ¬ 600 < l.length) (hk : chk ss0 l 0 = (-1, 0)) (hc : EvR w w.heap.size A l) :
    Calls Try.prog 3 #[.slice A l.length cap, .int .i64 a, .int .i64 b] w fun e w' => e = .returned (.bool true) ∧ Below w.heap.size w w' := by
  have d1 : decide ((600 : Int) < (l.length : Int)) = false := by simp; omega
  have hla := fun W => long_any A cap l.length W
  rw [d1] at hla
  have HLA := Lib.hid hla
  have hll : l.length ≤ 1099511627776 := by omega
  have hbk := blkC hll hk
  have hor := ordC hll hk
  have hah := ahC hll hk a b
  have hrb := rbC hll hk
  have hro := roC hll hk
  have hwr := fun W hc => wrong15_any A cap l W hll hc
  rw [hk] at hwr
  have hle := wBl_le l
  have hen : ∀ i, (ent (wBl l) i).length ≤ 1099511627776 := fun i => Nat.le_trans (wBl_ent l i) hll
  have hom := ordS_len (wBl l) (wLk l) (wBl l).length
  have hol : (lks (ordS (wBl l) (wLk l) (wBl l).length)).length = (ordS (wBl l) (wLk l) (wBl l).length).length := lks_len _
  obtain ⟨os, hos⟩ : ∃ os, os = lks (ordS (wBl l) (wLk l) (wBl l).length) := ⟨_, rfl⟩
  obtain ⟨m, hm⟩ : ∃ m, m = (ordS (wBl l) (wLk l) (wBl l).length).length := ⟨_, rfl⟩
  rw [← hos, ← hm] at hor hro
  rw [← hos, ← hm] at hol
  rw [← hm] at hom
  clear hos hm
  obtain ⟨bl, hbl⟩ : ∃ bl, bl = wBl l := ⟨_, rfl⟩
  rw [← hbl] at hbk hah hrb hle hen hom
  clear hbl
  obtain ⟨n, hn⟩ : ∃ n, n = bl.length := ⟨_, rfl⟩
  rw [← hn] at hbk hrb hle hom
  obtain ⟨r, hr⟩ : ∃ r, r = ahB bl a b := ⟨_, rfl⟩
  rw [← hr] at hah
  have hml : m ≤ 600 := by omega
  have hnl : n ≤ 600 := by omega
  have HBK := Lib.hid hbk
  have HOR := Lib.hid hor
  have HAH := Lib.hid hah
  have HRB := Lib.hid hrb
  have HRO := Lib.hid hro
  have HWR := Lib.hid hwr
  have HEN := Lib.hid hen
  have HOL := Lib.hid hol
  have HN := Lib.hid hn
  have HR := Lib.hid hr
  have HC := Lib.hid hc
  have HLL := Lib.hid hll
  clear hbk hor hah hrb hro hwr hen hol hn hr hc hlg hk hla d1 hle hom hll
  have e2 : (r != r) = false := by simp
  go_enter Try.func3, Try.ntmps3
  go_wp2_with (go_at_call 11; refine (HLA.out _).mono ?_; rintro e w' ⟨rfl, hww⟩; obtain rfl := hww.symm)
  go_wp2_with (go_at_call 13; refine halt_ ?_)
  refine Halt_.go ?_
  refine (lent_any A cap l w HLL.out HC.out).mono ?_
  rintro e w1 ⟨g, c1, rfl, hL, hb⟩
  have HL1 := Lib.hid hL
  have HC1 := Lib.hid ((HC.out.below hb).more hb.size)
  have HB1 := Lib.hid hb
  clear hL hb HC HLA
  go_wp2_with (go_at_call 14; refine halt_ ?_)
  refine Halt_.go ?_
  refine (HWR.out w1 HC1.out).mono ?_
  rintro e w2 ⟨rfl, hb⟩
  have HL2 := Lib.hid (HL1.out.below HL1.out.2.1 hb)
  have HC2 := Lib.hid ((HC1.out.below hb).more hb.size)
  have HB2 := Lib.hid (HB1.out.trans (hb.mono HB1.out.size))
  have SW2 : w.heap.size ≤ w2.heap.size := HB2.out.size
  clear hb HL1 HC1 HB1 HWR

  go_wp2_with (go_at_call 15; refine halt_ ?_)
  refine Halt_.go ?_
  refine (HBK.out (some ⟨g, 0, none⟩) c1 w2 HL2.out.reads).mono ?_
  rintro e w3 ⟨⟨Al, cl, hl, rfl, hx⟩, hb⟩
  have HBl := Lib.hid hx
  have HL3 := Lib.hid (HL2.out.below HL2.out.2.1 hb)
  have HC3 := Lib.hid ((HC2.out.below hb).more hb.size)
  have HB3 := Lib.hid (HB2.out.trans (hb.mono HB2.out.size))
  have S3 := hb.size
  clear hb HL2 HC2 HB2 hx
  go_wp2_with (go_at_call 15; refine halt_ ?_)
  refine Halt_.go ?_
  refine (HBK.out (some ⟨g, 0, none⟩) c1 w3 HL3.out.reads).mono ?_
  rintro e w4 ⟨⟨Am, cm, hm, rfl, hx⟩, hb⟩
  have HBm := Lib.hid hx
  have BL4 := Lib.hid hb
  have HL4 := Lib.hid (HL3.out.below HL3.out.2.1 hb)
  have HC4 := Lib.hid ((HC3.out.below hb).more hb.size)
  have HB4 := Lib.hid (HB3.out.trans (hb.mono HB3.out.size))
  have S4 := hb.size
  clear hb HL3 HC3 HB3 hx HBK
  go_wp2_with (go_at_call 16; refine halt_ ?_)
  refine Halt_.go ?_
  refine (HOR.out (some ⟨g, 0, none⟩) c1 w4 HL4.out.reads).mono ?_
  rintro e w5 ⟨⟨Ao, co, rfl, hx⟩, hb⟩
  have HOo := Lib.hid hx
  have BL5 := Lib.hid (BL4.out.trans (hb.mono S4))
  have BM5 := Lib.hid hb
  have HL5 := Lib.hid (HL4.out.below HL4.out.2.1 hb)
  have HC5 := Lib.hid ((HC4.out.below hb).more hb.size)
  have HB5 := Lib.hid (HB4.out.trans (hb.mono HB4.out.size))
  have S5 := hb.size
  clear hb HL4 HC4 HB4 hx BL4
  go_wp2_with (go_at_call 16; refine halt_ ?_)
  refine Halt_.go ?_
  refine (HOR.out (some ⟨g, 0, none⟩) c1 w5 HL5.out.reads).mono ?_
  rintro e w6 ⟨⟨Ap, cp, rfl, hx⟩, hb⟩
  have HOp := Lib.hid hx
  have BL6 := Lib.hid (BL5.out.trans (hb.mono (by omega)))
  have BM6 := Lib.hid (BM5.out.trans (hb.mono S5))
  have BO6 := Lib.hid hb
  have HL6 := Lib.hid (HL5.out.below HL5.out.2.1 hb)
  have HC6 := Lib.hid ((HC5.out.below hb).more hb.size)
  have HB6 := Lib.hid (HB5.out.trans (hb.mono HB5.out.size))
  have S6 := hb.size
  clear hb HL5 HC5 HB5 hx HOR BL5 BM5
  go_wp2_with (go_at_call 17; refine halt_ ?_)
  refine Halt_.go ?_
  refine (HAH.out (some ⟨g, 0, none⟩) c1 w6 HL6.out.reads).mono ?_
  rintro e w7 ⟨rfl, hb⟩
  have BL7 := Lib.hid (BL6.out.trans (hb.mono (by omega)))
  have BM7 := Lib.hid (BM6.out.trans (hb.mono (by omega)))
  have BO7 := Lib.hid (BO6.out.trans (hb.mono S6))
  have BP7 := Lib.hid hb
  have HL7 := Lib.hid (HL6.out.below HL6.out.2.1 hb)
  have HC7 := Lib.hid ((HC6.out.below hb).more hb.size)
  have HB7 := Lib.hid (HB6.out.trans (hb.mono HB6.out.size))
  have S7 := hb.size
  clear hb HL6 HC6 HB6 HAH BL6 BM6 BO6
  go_wp2_with (go_at_call 18; refine halt_ ?_)
  refine Halt_.go ?_
  refine (kept15_any A g c1 cap _ l w7 HLL.out HL7.out HC7.out).mono ?_
  rintro e w8 ⟨rfl, mm, hw8⟩
  have hb : Below w7.heap.size w7 w8 := by rw [hw8]; exact bdrewN (Below.refl _ _) mm
  have HC8 := Lib.hid ((HC7.out.below hb).more hb.size)
  have HB8 := Lib.hid (HB7.out.trans (hb.mono HB7.out.size))
  have S8 := hb.size
  have BL8 := Lib.hid (BL7.out.trans (hb.mono (by omega)))
  have BM8 := Lib.hid (BM7.out.trans (hb.mono (by omega)))
  have BO8 := Lib.hid (BO7.out.trans (hb.mono (by omega)))
  have BP8 := Lib.hid (BP7.out.trans (hb.mono S7))
  clear hw8 hb HL7 HC7 HB7 BL7 BM7 BO7 BP7
  go_wp2_with (go_at_call 19; refine halt_ ?_)
  refine Halt_.go ?_
  refine (HRB.out A cap w8 HC8.out).mono ?_
  rintro e w9 ⟨⟨Aw, cw, hw, Az, cz, rfl, hx⟩, hb⟩
  have HBw := Lib.hid hx
  have HC9 := Lib.hid ((HC8.out.below hb).more hb.size)
  have HB9 := Lib.hid (HB8.out.trans (hb.mono HB8.out.size))
  have S9 := hb.size
  have BL9 := Lib.hid (BL8.out.trans (hb.mono (by omega)))
  have BM9 := Lib.hid (BM8.out.trans (hb.mono (by omega)))
  have BO9 := Lib.hid (BO8.out.trans (hb.mono (by omega)))
  have BP9 := Lib.hid (BP8.out.trans (hb.mono (by omega)))
  clear hx hb HC8 HB8 BL8 BM8 BO8 BP8 HRB
  go_wp2_with (go_at_call 20; refine halt_ ?_)
  refine Halt_.go ?_
  refine (HRO.out A cap w9 HC9.out).mono ?_
  rintro e w10 ⟨⟨Ax, cx, rfl, hx⟩, hb⟩
  have HOx := Lib.hid hx
  have HB10 := Lib.hid (HB9.out.trans (hb.mono HB9.out.size))
  have S10 := hb.size
  have BL10 := Lib.hid (BL9.out.trans (hb.mono (by omega)))
  have BM10 := Lib.hid (BM9.out.trans (hb.mono (by omega)))
  have BO10 := Lib.hid (BO9.out.trans (hb.mono (by omega)))
  have BP10 := Lib.hid (BP9.out.trans (hb.mono (by omega)))
  have BW10 := Lib.hid hb
  clear hx hb HC9 HB9 BL9 BM9 BO9 BP9 HRO
  go_upto_region 16 with fail
  go_cut [21] from 95 to 133 (fun v wx => v = .bool r ∧ ∃ mm, wx = w10.drewN mm)
  case first =>
    have hr := HR.out
    have hb10 := HBw.out.below (Nat.le_refl _) BW10.out
    unfold ahB at hr
    rw [← HN.out] at hr
    have HRR := Lib.hid hr
    have HB10' := Lib.hid hb10
    clear hr hb10 HBl HBm HOo HOp HOx HBw BL10 BM10 BO10 BP10 BW10 HB10 HR HEN HOL HLL e2
    by_cases ha0 : 0 ≤ a
    · by_cases hb0 : 0 ≤ b
      · obtain ⟨i, rfl⟩ := Int.eq_ofNat_of_zero_le ha0
        obtain ⟨k, rfl⟩ := Int.eq_ofNat_of_zero_le hb0
        have d1 : decide ((0 : Int) ≤ (i : Int)) = true := by simp
        have d2 : decide ((0 : Int) ≤ (k : Int)) = true := by simp
        by_cases hin : (i : Int) < (n : Int)
        · have d3 : decide ((i : Int) < (n : Int)) = true := decide_eq_true hin
          by_cases hkn : (k : Int) < (n : Int)
          · have d4 : decide ((k : Int) < (n : Int)) = true := decide_eq_true hkn
            have hr := HRR.out
            rw [decide_eq_true ha0, decide_eq_true hb0, d3, d4] at hr
            simp only [Bool.true_and, Int.toNat_natCast] at hr
            unfold ahN at hr
            obtain ⟨gw, hA, _, hci, _, _⟩ := HB10'.out.reads.at_ (Below.refl _ _) (j := i) (by omega)
            subst hA
            obtain ⟨gw', hA', _, hck, _, _⟩ := HB10'.out.reads.at_ (Below.refl _ _) (j := k) (by omega)
            injection hA' with hA'
            injection hA' with hA'
            subst hA'
            have c1' := hci.c1
            have c3' := hci.c3
            have d5 := hck.c2
            clear hci hck HB10' HRR
            obtain ⟨bi, hbi⟩ : ∃ bi, bi = blAt bl i := ⟨_, rfl⟩
            obtain ⟨bk, hbk⟩ : ∃ bk, bk = blAt bl k := ⟨_, rfl⟩
            rw [← hbi] at c1' c3' hr
            rw [← hbk] at d5 hr
            clear hbi hbk
            obtain ⟨th, kd, f, la, nm, bw, er, rd, wt⟩ := bi
            obtain ⟨th', kd', f', la', nm', bw', er', rd', wt'⟩ := bk
            simp only at c1' c3' d5 hr
            by_cases h5 : kd = 5
            · subst h5
              have hrf : r = false := by rw [hr]; simp
              subst hrf
              clear hr
              go_quiet (fail)
              go_wp2
              go_meet
              exact ⟨rfl, _, rfl⟩
            · have e5 : (kd != 5) = true := by simpa using h5
              by_cases hlf : (la : Int) < (f' : Int)
              · have d6 : decide ((la : Int) < (f' : Int)) = true := decide_eq_true hlf
                have hrf : r = true := by rw [hr, e5, d6]; rfl
                subst hrf
                clear hr h5
                go_quiet (fail)
                go_wp2
                go_meet
                exact ⟨rfl, _, rfl⟩
              · have d6 : decide ((la : Int) < (f' : Int)) = false := decide_eq_false hlf
                have hrf : r = false := by rw [hr, e5, d6]; rfl
                subst hrf
                clear hr h5
                go_quiet (fail)
                go_wp2
                go_meet
                exact ⟨rfl, _, rfl⟩
          · have d4 : decide ((k : Int) < (n : Int)) = false := decide_eq_false hkn
            have hrf : r = false := by rw [HRR.out, d4]; simp
            subst hrf
            clear HRR
            go_quiet (fail)
            go_wp2
            go_meet
            exact ⟨rfl, _, rfl⟩
        · have d3 : decide ((i : Int) < (n : Int)) = false := decide_eq_false hin
          have hrf : r = false := by rw [HRR.out, d3]; simp
          subst hrf
          clear HRR
          go_quiet (fail)
          go_wp2
          go_meet
          exact ⟨rfl, _, rfl⟩
      · have d2 : decide ((0 : Int) ≤ b) = false := decide_eq_false hb0
        have hrf : r = false := by rw [HRR.out, d2]; simp
        subst hrf
        clear HRR
        go_quiet (fail)
        go_wp2
        go_meet
        exact ⟨rfl, _, rfl⟩
    · have d1 : decide ((0 : Int) ≤ a) = false := decide_eq_false ha0
      have hrf : r = false := by rw [HRR.out, d1]; simp
      subst hrf
      clear HRR
      go_quiet (fail)
      go_wp2
      go_meet
      exact ⟨rfl, _, rfl⟩
  case rest =>
  obtain ⟨rfl, mm, hwc⟩ := hcut
  obtain ⟨w11, hw11⟩ : ∃ w11, w11 = wc := ⟨_, rfl⟩
  have HB11 : Hid (Below w.heap.size w w11) := by rw [hw11, hwc]; exact bdrewN HB10.out mm
  have BL11 : Hid (Below w3.heap.size w3 w11) := by rw [hw11, hwc]; exact bdrewN BL10.out mm
  have BM11 : Hid (Below w4.heap.size w4 w11) := by rw [hw11, hwc]; exact bdrewN BM10.out mm
  have BO11 : Hid (Below w5.heap.size w5 w11) := by rw [hw11, hwc]; exact bdrewN BO10.out mm
  have BP11 : Hid (Below w6.heap.size w6 w11) := by rw [hw11, hwc]; exact bdrewN BP10.out mm
  have BW11 : Hid (Below w9.heap.size w9 w11) := by rw [hw11, hwc]; exact bdrewN BW10.out mm
  have BX11 : Hid (Below w10.heap.size w10 w11) := by rw [hw11, hwc]; exact bdrewN (Below.refl _ _) mm
  have S11 : w10.heap.size ≤ w11.heap.size := BX11.out.size
  rw [← hw11]
  clear hwc hw11 HB10 BL10 BM10 BO10 BP10 BW10
  have hsb := sameBlocks_any Al Aw cl cw n bl hl hw w2.heap.size w11 (HBl.out.below (Nat.le_refl _) BL11.out).reads ((HBw.out.below (Nat.le_refl _) BW11.out).reads.more (by omega) (Nat.le_refl _)) (by omega) HEN.out
  have HSB := Lib.hid hsb
  clear hsb
  go_wp2_with (go_at_call 21; refine halt_ ?_)
  refine Halt_.go ?_
  refine HSB.out.mono ?_
  rintro e w12 ⟨rfl, hb⟩
  have HB12 := Lib.hid (HB11.out.trans (hb.mono HB11.out.size))
  have BL12 := Lib.hid (BL11.out.trans (hb.mono (by omega)))
  have BM12 := Lib.hid (BM11.out.trans (hb.mono (by omega)))
  have BO12 := Lib.hid (BO11.out.trans (hb.mono (by omega)))
  have BP12 := Lib.hid (BP11.out.trans (hb.mono (by omega)))
  have BW12 := Lib.hid (BW11.out.trans (hb.mono (by omega)))
  have BX12 := Lib.hid (BX11.out.trans (hb.mono (by omega)))
  have S12 := hb.size
  have hsi := sameInts_any Ao Ax co cx os w12 (HOo.out.below (Nat.le_refl _) BO12.out).reads (HOx.out.below (Nat.le_refl _) BX12.out).reads (by have := HOL.out; omega)
  rw [HOL.out] at hsi
  have HSI := Lib.hid hsi
  clear hsi hb HSB HB11 BL11 BM11 BO11 BP11 BW11 BX11
  go_wp2_with (go_at_call 22; refine halt_ ?_)
  refine Halt_.go ?_
  refine HSI.out.mono ?_
  rintro e w13 ⟨rfl, mm2, hw13⟩
  have hb : Below w12.heap.size w12 w13 := by rw [hw13]; exact bdrewN (Below.refl _ _) mm2
  have HB13 := Lib.hid (HB12.out.trans (hb.mono HB12.out.size))
  have BL13 := Lib.hid (BL12.out.trans (hb.mono (by omega)))
  have BM13 := Lib.hid (BM12.out.trans (hb.mono (by omega)))
  have BO13 := Lib.hid (BO12.out.trans (hb.mono (by omega)))
  have BP13 := Lib.hid (BP12.out.trans (hb.mono (by omega)))
  have BW13 := Lib.hid (BW12.out.trans (hb.mono (by omega)))
  have BX13 := Lib.hid (BX12.out.trans (hb.mono (by omega)))
  have S13 := hb.size
  have HLO0 := Lib.hid (LO.of HBl.out BL13.out)
  have HKP0 := Lib.hid (Kp.refl w13 w2.heap.size w3.heap.size)
  clear hb hw13 HSI HB12 BL12 BM12 BO12 BP12 BW12 BX12 BL13 HBl
  go_wp2
  go_loopw [22] (fun iv wr => ∃ q : Nat, q ≤ n ∧ iv = .int .i64 q ∧ Hid (LO wr w2.heap.size w3.heap.size Al n cl hl q) ∧ Hid (Kp w13 wr w2.heap.size w3.heap.size)) (fun iv _ => n - (intOf iv).toNat)
  case atStart => exact ⟨0, Nat.zero_le _, rfl, HLO0, HKP0⟩
  case round =>
    clear HLO0 HKP0
    obtain ⟨q, hq, rfl, HLO, HKP⟩ := hrel
    by_cases hqn : q < n
    · obtain ⟨gl, v0, v1, v2, v3, v4, v5, v6, Ar, nr, cr, At, nt, ct, hAl, hgl1, hgl2, e7, e8, _, _⟩ := HLO.out.at_ (Nat.le_refl q) hqn
      subst hAl
      have hnr := HLO.out.bound (by omega) e7
      have hnt := HLO.out.bound (by omega) e8
      have E7 := Lib.hid e7
      have E8 := Lib.hid e8
      have i1 : (0 : Int) ≤ (q : Int) := by omega
      have i2 : (q : Int) < (n : Int) := by omega
      clear e7 e8
      go_wp2
      go_loopw [23] (fun kv wr1 => ∃ j : Nat, j ≤ nr ∧ kv = .int .i64 j ∧ Hid (LO wr1 w2.heap.size w3.heap.size (some ⟨gl, 0, none⟩) n cl hl q) ∧ Hid (Kp w13 wr1 w2.heap.size w3.heap.size)) (fun kv _ => nr - (intOf kv).toNat)
      case atStart => exact ⟨0, Nat.zero_le _, rfl, HLO, HKP⟩
      case round =>
        clear HLO HKP
        obtain ⟨j, hj, rfl, HLO1, HKP1⟩ := hrel
        obtain ⟨v0, v1, v2, v3, v4, v5, v6, ⟨b0, b1, b2, b3, b4, b5, b6, b7, b8⟩, bf⟩ := HLO1.out.at2 (Nat.le_refl q) hqn E7.out E8.out
        by_cases hjn : j < nr
        · obtain ⟨g', u0, u1, u2, hAr, hg1, hg2, ⟨x0, x1, x2⟩, xf⟩ := HLO1.out.ent_at (i := 2 * q) (by omega) E7.out hjn
          subst hAr
          have y0 := xf (j * 3)
          have y1 := xf (j * 3 + 1)
          have y2 := xf (j * 3 + 2)
          have j1 : (0 : Int) ≤ (j : Int) := by omega
          have j2 : (j : Int) < (nr : Int) := by omega
          have HLO2 := Lib.hid (HLO1.out.entry (k := j) (i := 2 * q) (by omega) E7.out (.int .u64 99) (.int .u64 0) (.bool false))
          have HKP2 := Lib.hid (((HKP1.out.set ⟨g', j * 3, none⟩ (.int .u64 99) hg1 hg2).set ⟨g', j * 3 + 1, none⟩ (.int .u64 0) hg1 hg2).set ⟨g', j * 3 + 2, none⟩ (.bool false) hg1 hg2)
          clear bf xf b0 b1 b2 b3 b4 b5 b6 HLO1 HKP1
          go_wp2
          go_roundw
          case rel => exact ⟨j + 1, hjn, by go_num, HLO2, HKP2⟩
          case measure => simp [intOf]; omega
        · obtain rfl : j = nr := by omega
          have HLO := HLO1
          have HKP := HKP1
          clear HLO1 HKP1
          go_wp2
          go_loopw [24] (fun kv wr1 => ∃ j : Nat, j ≤ nt ∧ kv = .int .i64 j ∧ Hid (LO wr1 w2.heap.size w3.heap.size (some ⟨gl, 0, none⟩) n cl hl q) ∧ Hid (Kp w13 wr1 w2.heap.size w3.heap.size)) (fun kv _ => nt - (intOf kv).toNat)
          case atStart => exact ⟨0, Nat.zero_le _, rfl, HLO, HKP⟩
          case round =>
            clear HLO HKP
            obtain ⟨j, hj, rfl, HLO1, HKP1⟩ := hrel
            obtain ⟨v0, v1, v2, v3, v4, v5, v6, ⟨b0, b1, b2, b3, b4, b5, b6, b7, b8⟩, bf⟩ := HLO1.out.at2 (Nat.le_refl q) hqn E7.out E8.out
            by_cases hjn : j < nt
            · obtain ⟨g', u0, u1, u2, hAr, hg1, hg2, ⟨x0, x1, x2⟩, xf⟩ := HLO1.out.ent_at (i := 2 * q + 1) (by omega) E8.out hjn
              subst hAr
              have y0 := xf (j * 3)
              have y1 := xf (j * 3 + 1)
              have y2 := xf (j * 3 + 2)
              have j1 : (0 : Int) ≤ (j : Int) := by omega
              have j2 : (j : Int) < (nt : Int) := by omega
              have HLO2 := Lib.hid (HLO1.out.entry (k := j) (i := 2 * q + 1) (by omega) E8.out (.int .u64 99) (.int .u64 0) (.bool false))
              have HKP2 := Lib.hid (((HKP1.out.set ⟨g', j * 3, none⟩ (.int .u64 99) hg1 hg2).set ⟨g', j * 3 + 1, none⟩ (.int .u64 0) hg1 hg2).set ⟨g', j * 3 + 2, none⟩ (.bool false) hg1 hg2)
              clear bf xf b0 b1 b2 b3 b4 b5 b6 HLO1 HKP1
              go_wp2
              go_roundw
              case rel => exact ⟨j + 1, hjn, by go_num, HLO2, HKP2⟩
              case measure => simp [intOf]; omega
            · obtain rfl : j = nt := by omega
              have HLO := HLO1
              have HKP := HKP1
              clear HLO1 HKP1
              obtain ⟨v0, v1, v2, v3, v4, v5, v6, ⟨b0, b1, b2, b3, b4, b5, b6, b7, b8⟩, bf⟩ := HLO.out.at2 (Nat.le_refl q) hqn E7.out E8.out
              have f0 := bf (q * 9)
              have f1 := bf (q * 9 + 1)
              have f2 := bf (q * 9 + 2)
              have f3 := bf (q * 9 + 3)
              have f4 := bf (q * 9 + 4)
              have f5 := bf (q * 9 + 5)
              have f6 := bf (q * 9 + 6)
              have f7 := bf (q * 9 + 7)
              have f8 := bf (q * 9 + 8)
              have HLO3 := Lib.hid (HLO.out.zero hqn (.int .i64 0) (.int .i64 0) (.int .i64 0) (.int .i64 0) (.int .u64 0) (.bool false) (.int .i64 0) (.slice none 0 0) (.slice none 0 0))
              have HKP3 := Lib.hid (((((((((HKP.out.set ⟨gl, q * 9, none⟩ (.int .i64 0) hgl1 hgl2).set ⟨gl, q * 9 + 1, none⟩ (.int .i64 0) hgl1 hgl2).set ⟨gl, q * 9 + 2, none⟩ (.int .i64 0) hgl1 hgl2).set ⟨gl, q * 9 + 3, none⟩ (.int .i64 0) hgl1 hgl2).set ⟨gl, q * 9 + 4, none⟩ (.int .u64 0) hgl1 hgl2).set ⟨gl, q * 9 + 5, none⟩ (.bool false) hgl1 hgl2).set ⟨gl, q * 9 + 6, none⟩ (.int .i64 0) hgl1 hgl2).set ⟨gl, q * 9 + 7, none⟩ (.slice none 0 0) hgl1 hgl2).set ⟨gl, q * 9 + 8, none⟩ (.slice none 0 0) hgl1 hgl2)
              clear bf HLO HKP
              go_wp2
              go_roundw
              case rel => exact ⟨q + 1, hqn, by go_num, HLO3, HKP3⟩
              case measure => simp [intOf]; omega
    · obtain rfl : q = n := by omega
      have HB14 := Lib.hid (HKP.out.below HB13.out SW2)
      have HO14 := Lib.hid (HKP.out.ownI (HOo.out.below (Nat.le_refl _) BO13.out) (by omega))
      have RM14 := Lib.hid (HKP.out.rb (HBm.out.reads.below BM13.out) (.inl (Nat.le_refl _)))
      have RW14 := Lib.hid (HKP.out.rb (HBw.out.reads.below BW13.out) (.inl (by omega)))
      have OP14 := Lib.hid (HKP.out.ownI (HOp.out.below (Nat.le_refl _) BP13.out) (by omega))
      have OX14 := Lib.hid (HKP.out.ownI (HOx.out.below (Nat.le_refl _) BX13.out) (by omega))
      have HKQ := Lib.hid (Kp.refl wr w4.heap.size w5.heap.size)
      have hoh : ∀ g', (Value.slice Ao m co).ownBlock = some g' → g' < w5.heap.size := by
        have := fun g' hg' => (HOo.out.lt g' hg').2
        rw [HOL.out] at this
        exact this
      have HOH := Lib.hid hoh
      have hwz := HKP.out.size
      clear hoh HLO HKP HBm HBw HOo HOp HOx BM13 BO13 BP13 BW13 BX13 HB13
      go_wp2
      go_loopw [25] (fun iv wr2 => ∃ (j : Nat) (xs : List Int), j ≤ m ∧ iv = .int .i64 j ∧ Hid (xs.length = m) ∧ Hid (OwnI wr2 w4.heap.size Ao co xs) ∧ Hid (Kp wr wr2 w4.heap.size w5.heap.size)) (fun iv _ => m - (intOf iv).toNat)
      case atStart => exact ⟨0, os, Nat.zero_le _, rfl, HOL, HO14, HKQ⟩
      case round =>
        clear HO14 HKQ
        obtain ⟨j, xs, hj, rfl, HXL, HO15, HKP2⟩ := hrel
        by_cases hjm : j < m
        · have hjx : j < xs.length := by rw [HXL.out]; exact hjm
          obtain ⟨go, capo, hv, hgo1, hgo2⟩ := HO15.out.form (by omega)
          have hA : Ao = some ⟨go, 0, none⟩ := by injection hv
          subst hA
          have hcc := HO15.out.cellAt j (by omega)
          have hce : wr.cell? ⟨go, j, none⟩ = some (.int .i64 xs[j]) := by rw [hcc]; simp [ints, hjx]
          have hff := HO15.out.frozenAt j
          have hgo3 := HOH.out go rfl
          have HO16 := Lib.hid (HO15.out.setAt j (-5))
          have HXL2 : Hid ((xs.set j (-5)).length = m) := by
            have := HXL.out
            show _ = _
            rw [List.length_set]
            exact this
          have HKP3 := Lib.hid (HKP2.out.set ⟨go, j, none⟩ (.int .i64 (-5)) hgo1 hgo3)
          have j1 : (0 : Int) ≤ (j : Int) := by omega
          have j2 : (j : Int) < (m : Int) := by omega
          generalize xs[j] = xj at hce
          clear hv hcc hjx HO15 HXL HKP2 HOH
          go_wp2
          go_roundw
          case rel => exact ⟨j + 1, _, hjm, by go_num, HXL2, HO16, HKP3⟩
          case measure => simp [intOf]; omega
        · obtain rfl : j = m := by omega
          have hwz2 := HKP2.out.size
          have HB15 := Lib.hid (HKP2.out.below HB14.out (by omega))
          have RM15 := Lib.hid (HKP2.out.rb RM14.out (.inr (Nat.le_refl _)))
          have RW15 := Lib.hid (HKP2.out.rb RW14.out (.inl (by omega)))
          have OP15 := Lib.hid (HKP2.out.ownI OP14.out (Nat.le_refl _))
          have OX15 := Lib.hid (HKP2.out.ownI OX14.out (by omega))
          have hsb := sameBlocks_any Am Aw cm cw _ bl hm hw w3.heap.size wr (RM15.out.more (Nat.le_refl _) (by omega)) (RW15.out.more (by omega) (by omega)) (by omega) HEN.out
          have HSB := Lib.hid hsb
          clear hsb HB14 RM14 RW14 OP14 OX14 HKP2 HO15 HXL HOH
          go_wp2_with (go_at_call 21; refine halt_ ?_)
          refine Halt_.go ?_
          refine HSB.out.mono ?_
          rintro e w20 ⟨rfl, hb⟩
          have HB20 := Lib.hid (HB15.out.trans (hb.mono HB15.out.size))
          have hsi := sameInts_any Ap Ax cp cx os w20 (OP15.out.below (Nat.le_refl _) hb).reads (OX15.out.below (Nat.le_refl _) hb).reads (by have := HOL.out; omega)
          rw [HOL.out] at hsi
          have HSI := Lib.hid hsi
          clear hsi hb HSB HB15 RM15 RW15 OP15 OX15
          go_wp2_with (go_at_call 22; refine halt_ ?_)
          refine Halt_.go ?_
          refine HSI.out.mono ?_
          rintro e w21 ⟨rfl, mm3, hw21⟩
          have HB21 : Hid (Below w.heap.size w w21) := by rw [hw21]; exact bdrewN HB20.out mm3
          clear hw21 HSI HB20
          go_wp2_with (go_at_call 12; refine halt_ ?_)
          refine Halt_.go ?_
          refine (known15_any _).mono ?_
          rintro e w22 ⟨rfl, hb⟩
          have HB22 := Lib.hid (HB21.out.trans (hb.mono HB21.out.size))
          clear hb HB21
          go_wp2
          go_ret
          exact ⟨rfl, HB22.out⟩
theorem law15_any (A : Option Addr) (cap : Nat) (l : List Ev) (a b : Int) (w : World) (hc : EvR w w.heap.size A l) :
    Calls Try.prog 3 #[.slice A l.length cap, .int .i64 a, .int .i64 b] w fun e w' => e = .returned (.bool true) ∧ Below w.heap.size w w' := by
  by_cases hlg : 600 < l.length
  · exact law15_long A cap l a b w hlg
  · rcases chk_cases l 0 ss0 with hk | hk
    · exact law15_good A cap l a b w hlg hk hc
    · exact law15_bad A cap l a b w hlg hk hc
end Go.Proofs.Ytjifpjfinffamaa
