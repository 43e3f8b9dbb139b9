/- Walk: graph.Depths. -/
import Derived.Test.YtjifpjfinffamaaWA
import Derived.Test.YtjifpjfinffamaaM7
import Derived.BigRegion
namespace Go.Proofs.Ytjifpjfinffamaa
open Go.RowKit

def DepthEnds (n : Int) (l : List E) (w : World) (e : Ending) (w' : World) : Prop :=
  ∃ A c xs er, e = .returned (.tuple #[.slice A xs.length c, .int .i64 er]) ∧ DepthW n l xs er ∧ OwnI w' w.heap.size A c xs ∧ Below w.heap.size w w'

set_option linter.unusedSimpArgs false in
set_option maxRecDepth 100000 in
set_option maxHeartbeats 3200000 in
theorem depths_any (n : Int) (A : Option Addr) (cap : Nat) (l : List E) (w : World) (hl : l.length * 24 ≤ 140737488351232) (hc : RE w w.heap.size A l) :
    Calls Try.prog 40 #[.int .i64 n, .slice A l.length cap] w (DepthEnds n l w) := by
  have HC := Lib.hid hc
  clear hc
  go_enter Try.func40, Try.ntmps40
  go_wp2_with (go_at_call 39; refine halt_ ?_)
  refine Halt_.go ?_
  refine (order_any n A cap l w hl HC.out).mono ?_
  rintro e w1 ⟨Ao, co, os, er, rfl, hS, hown, hb1⟩
  have HB1 := Lib.hid hb1
  have HO1 := Lib.hid hown
  have HC1 := Lib.hid ((HC.out.below hb1).more hb1.size)
  clear hb1 hown HC
  by_cases her : er = 0
  · subst her
    have HS := Lib.hid hS
    obtain ⟨N, rfl, hN, ok, hF, hxN⟩ := hS.whole
    have HOK := Lib.hid ok
    have HF := Lib.hid hF
    have HXN := Lib.hid hxN
    clear hS ok hF hxN
    go_wp2_with (go_at_call 68; refine halt_ ?_)
    refine Halt_.go ?_
    refine (out_any N A cap l w1 hN HOK.out hl HC1.out).mono ?_
    rintro e w2 ⟨A3, c3, rfl, hr2, hb2⟩
    have HB2 := Lib.hid (HB1.out.trans (hb2.mono HB1.out.size))
    have HR2 := Lib.hid hr2
    have HO2 := Lib.hid (HO1.out.below (Nat.le_refl _) hb2)
    have HC2 := Lib.hid ((HC1.out.below hb2).more hb2.size)
    clear hr2 hb2 HO1 HC1 HB1
    go_wp2_with (at_make; refine halt_ ?_)
    refine Halt_.go ?_
    obtain ⟨i0, hi, hz0, hz1, hz2⟩ := info_parts info3
    refine wpList_make_full _ rfl _ _ 31 rfl w2.heap.size 3 i0 _ 1 Try.underlying31 hi hz0 hz1 _ _ _ _ N (by rfl) (by rfl) rfl rfl (by rw [hz2]; omega) (by unfold maxLen; omega) (Nat.le_refl _) ?_
    intro w3 hown1 hgrow1
    have hds : (madeCells (Value.int .i64 0).cells (N * 1)).toList = ints (List.replicate N 0) := by
      rw [show (Value.int .i64 0).cells = #[Value.int .i64 0] from rfl, toList_madeCells_one, Nat.mul_one]
      simp [ints]
    rw [hds] at hown1
    have hb3 : Below w2.heap.size w2 w3 := (Below.refl _ _).grown hgrow1 (Nat.le_refl _) (fun g hg => by cases hg)
    obtain ⟨g0, hg0⟩ : ∃ g0, g0 = w2.heap.size := ⟨_, rfl⟩
    rw [← hg0] at hown1 hb3
    rw [← hg0]
    have HG0 := Lib.hid hg0.symm
    have HW3 := Lib.hid hown1
    have HB3 := Lib.hid hb3
    clear hds hgrow1 hi hz0 hz1 hz2 hown1 hb3 hg0
    go_wp2
    go_loopw [30] (fun i wr => ∃ (k : Nat) (d : List Int), k ≤ os.length ∧ i = .int .i64 k ∧ Hid (d = deps l N (os.take k)) ∧ Hid (Bd N (k * l.length) d) ∧ Hid (wr.ownsRow g0 3 1 (.slice (some ⟨g0, 0, none⟩) N N) N (ints d)) ∧ Hid (Below g0 w2 wr)) (fun i _ => os.length - (intOf i).toNat)
    case atStart => exact ⟨0, _, Nat.zero_le _, rfl, Lib.hid rfl, Lib.hid (by rw [Nat.zero_mul]; exact Bd.start N), HW3, HB3⟩
    case round =>
      clear HW3 HB3
      obtain ⟨k, d, hk, rfl, HD, HBD, HOW, HBL⟩ := hrel
      by_cases hlt : k < os.length
      · have hbr : Below w2.heap.size w2 wr := by rw [HG0.out]; exact HBL.out
        obtain ⟨ob, oo, x, rfl, hob, hox, hcx⟩ := HO2.out.reads.at_ hbr hlt
        have hxm := HF.out.1.nodup.2 x (List.mem_of_getElem? hox.out)
        obtain ⟨x, rfl⟩ := Int.eq_ofNat_of_zero_le hxm.1
        have hxN : x < N := by have := hxm.2; omega
        obtain ⟨rb, ro, Ar, cr, rfl, hrb, hcr, hrk⟩ := RR_at HR2.out hbr (k := x) (by simp [outRows]; omega)
        have hrow : (outRows l N)[x]'(by simp [outRows]; omega) = outRow l x l.length := by simp [outRows]
        rw [hrow] at hcr hrk
        have HRK := Lib.hid hrk
        have HOX := Lib.hid hox.out
        have i1 : (0 : Int) ≤ (x : Int) := by omega
        have i2 : (x : Int) < (N : Int) := by omega
        have i3 : (0 : Int) ≤ (k : Int) := by omega
        have i4 : (k : Int) < (os.length : Int) := by omega
        have hM : k * l.length ≤ 65536 * 5864062014635 := Nat.mul_le_mul (by have := HXN.out; omega) (by omega)
        obtain ⟨M, hMe⟩ : ∃ M, M = k * l.length := ⟨_, rfl⟩
        rw [← hMe] at hM HBD
        have HME := Lib.hid hMe
        clear hrow hrk hbr hxm hox hMe
        go_wp2
        go_loopw [39] (fun i wr => ∃ (q : Nat) (d' : List Int), q ≤ (outRow l x l.length).length ∧ i = .int .i64 q ∧ Hid (d' = depRow l x d ((outRow l x l.length).take q)) ∧ Hid (Bd N (M + q) d') ∧ Hid (wr.ownsRow g0 3 1 (.slice (some ⟨g0, 0, none⟩) N N) N (ints d')) ∧ Hid (Below g0 w2 wr)) (fun i _ => (outRow l x l.length).length - (intOf i).toNat)
        case atStart => exact ⟨0, d, Nat.zero_le _, rfl, Lib.hid rfl, HBD, HOW, HBL⟩
        case round =>
          clear HBD HOW HBL
          obtain ⟨q, d', hq, rfl, HD', HBD, HOW, HBL⟩ := hrel
          have hbr : Below w2.heap.size w2 wr := by rw [HG0.out]; exact HBL.out
          have hcnt := outRow_len l x l.length
          by_cases hql : q < (outRow l x l.length).length
          · obtain ⟨pb, po, i, rfl, hpb, hi, hci⟩ := HRK.out.at_ hbr hql
            obtain ⟨i, rfl, hil, hif⟩ := mem_outRow (List.mem_of_getElem? hi.out)
            obtain ⟨eb, eo, f, t, kk, rfl, heb, he, he1, he2, he3⟩ := HC2.out.at_ hbr hil
            have heg : eg l i = ⟨f, t, kk⟩ := by simp [eg, List.getD, he.out]
            have hmem := HOK.out _ (List.mem_of_getElem? he.out)
            simp only at hmem
            obtain ⟨t, rfl⟩ := Int.eq_ofNat_of_zero_le hmem.2.1
            have htN : t < N := by have := hmem.2.2; omega
            have hdl := HBD.out.1
            have hbt := HBD.out.2 t htN
            have hbx := HBD.out.2 x hxN
            have hct : wr.cell? ⟨g0, t, none⟩ = some (.int .i64 (nth d' t)) := by
              rw [HOW.out.cellAt t (by omega)]
              simp [ints, nth_some (show t < d'.length by omega)]
            have hcx : wr.cell? ⟨g0, x, none⟩ = some (.int .i64 (nth d' x)) := by
              rw [HOW.out.cellAt x (by omega)]
              simp [ints, nth_some (show x < d'.length by omega)]
            have hfr := HOW.out.frozenAt t
            have hst : depE x d' (eg l i) = d'.set t (max (nth d' t) (nth d' x + 1)) := by rw [heg]; rfl
            have HST := Lib.hid hst
            have hset := own_set HOW.out t (max (nth d' t) (nth d' x + 1))
            have HSET := Lib.hid hset
            have hbel := HBL.out.setCell (p := ⟨g0, t, none⟩) (Nat.le_refl _) (.int .i64 (max (nth d' t) (nth d' x + 1)))
            have HBEL := Lib.hid hbel
            have HI := Lib.hid hi.out
            have HB := Lib.hid (HBD.out.step hxN (eg l i))
            obtain ⟨zt, hzt⟩ : ∃ z, nth d' t = z := ⟨_, rfl⟩
            obtain ⟨zx, hzx⟩ : ∃ z, nth d' x = z := ⟨_, rfl⟩
            have hmax : max zt (zx + 1) = if zt < zx + 1 then zx + 1 else zt := by
              split <;> omega
            rw [hzt, hzx, hmax] at HST HSET HBEL
            rw [hzt] at hbt hct
            rw [hzx] at hbx hcx
            have i3 : (0 : Int) ≤ (q : Int) := by omega
            have i4 : (q : Int) < ((outRow l x l.length).length : Int) := by omega
            have i5 : (0 : Int) ≤ (i : Int) := by omega
            have i6 : (i : Int) < (l.length : Int) := by omega
            have i7 : (0 : Int) ≤ (t : Int) := by omega
            have i8 : (t : Int) < (N : Int) := by omega
            have hzM : zx + 1 ≤ 9223372036854775807 := by omega
            have hz0 : 0 ≤ zx := hbx.1
            clear hst hset hbel hmax hi heg hmem he hif he3 hbr hzt hzx hM hcr
            go_wp2
            go_region
            go_wp2
            go_roundw
            case rel => exact ⟨q + 1, _, hql, by go_num, Lib.hid (by rw [take_snoc HI.out, depRow_snoc, ← HD'.out]; exact HST.out.symm), Lib.hid (HST.out ▸ HB.out), Lib.hid HSET.out.drew, Lib.hid (HBEL.out.trans ((Below.refl _ _).drew))⟩
            case measure => simp [intOf]; omega
          · have hqe : q = (outRow l x l.length).length := by omega
            subst hqe
            have HD2 := Lib.hid (show d' = deps l N (os.take (k + 1)) by
              rw [take_snoc HOX.out, deps_snoc, HD'.out, List.take_length, ← HD.out]; rfl)
            have HB2' := Lib.hid (HBD.out.mono (show M + (outRow l x l.length).length ≤ (k + 1) * l.length by rw [HME.out, Nat.succ_mul]; omega))
            clear HD' HBD HD
            have hol : os.length ≤ 65536 := by have := HXN.out; omega
            go_wp2
            go_roundw
            case rel => exact ⟨k + 1, _, hlt, by go_num, HD2, HB2', HOW, HBL⟩
            case measure => simp [intOf]; omega
      · have hke : k = os.length := by omega
        subst hke
        have HD2 := Lib.hid (show d = deps l N os by rw [HD.out, List.take_length])
        have HDL := Lib.hid HBD.out.1
        clear HD HBD
        go_wp2
        go_ret2
        have hfin : OwnI wr w.heap.size (some ⟨g0, 0, none⟩) N d := (OwnI.of_far HOW.out).2.base (by have := HB2.out.size; rw [HG0.out] at this; exact this)
        exact ⟨_, N, d, 0, by rw [HDL.out]; rfl, .inr ⟨rfl, os, HS.out, HD2.out⟩, hfin, HB2.out.trans (HBL.out.mono (by have := HB2.out.size; rw [HG0.out] at this; exact this))⟩
  · have h0 := hS.none_ her
    subst h0
    have HS := Lib.hid hS
    clear hS
    go_wp2
    go_ret2
    exact ⟨none, 0, [], er, rfl, .inl ⟨her, HS.out, rfl⟩, OwnI.nil _ _, HB1.out⟩
end Go.Proofs.Ytjifpjfinffamaa
