/- Texts R24 R25 R26 R27 R28 R29 R30 R31 R32 R33, laid together. -/
import Derived.Test.YtjifpjfinffamaaZ3
import Derived.Test.YtjifpjfinffamaaZ20
import Derived.Test.YtjifpjfinffamaaZ21
import Derived.Test.YtjifpjfinffamaaZ22
import Derived.Test.YtjifpjfinffamaaZ23
section
namespace Go.Proofs.Ytjifpjfinffamaa
open Go.RowKit
theorem field99 (x y : Int) (w : World) : (Instr.field 99 (.agg #[.int .i64 x, .int .i64 y]) 1).run Try.prog w = .ok (.int .i64 y) w := by kernel_rfl
def ahL (l : List Ev) (bl : List Bl) (lk : List Nat) (e f : Int) : Bool := (decide (0 ≤ e) && decide (0 ≤ f) && decide (e < l.length) && decide (f < l.length)) && (decide (0 ≤ ofP l bl e.toNat) && decide (0 ≤ ofP l bl f.toNat) && aheadP l bl lk (ofP l bl e.toNat).toNat (ofP l bl f.toNat).toNat)
theorem check_split (A : Option Addr) (cap : Nat) (l : List Ev) (w : World) (hl : l.length ≤ 1000) (hc : EvR w w.heap.size A l) :
    ((chk ss0 l 0).2 ≠ 0 ∧ ∃ x, Calls Try.prog 59 #[.slice A l.length cap] w fun e w' => e = .returned (.agg #[.int .i64 x, .int .i64 (chk ss0 l 0).2]) ∧ Below w.heap.size w w') ∨
      chk ss0 l 0 = (-1, 0) ∧ Calls Try.prog 59 #[.slice A l.length cap] w fun e w' => e = .returned (.agg #[.int .i64 (-1), .int .i64 0]) ∧ Below w.heap.size w w' := by
  have h := evCheck_any A cap l w (by omega) hc
  rcases chk_cases l 0 ss0 with hk | hk
  · rw [hk] at h
    exact .inr ⟨hk, h⟩
  · exact .inl ⟨hk, _, h⟩
set_option linter.unusedSimpArgs false in
set_option maxRecDepth 100000 in
set_option maxHeartbeats 6400000 in
theorem ahead18_any (A : Option Addr) (cap : Nat) (l : List Ev) (a b : Int) (w : World) (hl : l.length ≤ 1000) (hc : EvR w w.heap.size A l) :
    Calls Try.prog 54 #[.slice A l.length cap, .int .i64 a, .int .i64 b] w fun e w' => ∃ r, e = .returned (.bool r) ∧ ((chk ss0 l 0).2 ≠ 0 ∧ r = false ∨ chk ss0 l 0 = (-1, 0) ∧ r = ahL l (wBl l) (wLk l) a b) ∧ Below w.heap.size w w' := by
  rcases check_split A cap l w hl hc with ⟨hk, x, hch⟩ | ⟨hk, hch⟩
  · have HK := Lib.hid hk
    have HCH := Lib.hid hch
    generalize chk ss0 l 0 = R at *
    obtain ⟨x', y⟩ := R
    have e1 : (y != 0) = true := by simpa using hk
    have hfd := field99 x y
    clear hk hch hc
    go_enter Try.func54, Try.ntmps54
    go_wp2_with (go_at_call 59; refine halt_ ?_)
    refine Halt_.go ?_
    refine HCH.out.mono ?_
    rintro e w1 ⟨rfl, hb⟩
    have HB := Lib.hid hb
    clear hb HCH
    go_wp2
    go_ret
    exact ⟨_, rfl, .inl ⟨HK.out, rfl⟩, HB.out⟩
  · have HK := Lib.hid hk
    have HCH := Lib.hid hch
    have HWV := Lib.hid (fun W (h : EvR W W.heap.size A l) => weave_any A cap l W (by omega) hk h)
    have HHB := Lib.hid (HBk.of (l := l) (by omega) hk)
    have HC := Lib.hid hc
    have hnp := pts_len l (wBl l)
    have hfd := field99 (-1) 0
    have hnb := wBl_le l
    have HR : Hid (∀ r, r = ahL l (wBl l) (wLk l) a b → ((chk ss0 l 0).2 ≠ 0 ∧ r = false ∨ chk ss0 l 0 = (-1, 0) ∧ r = ahL l (wBl l) (wLk l) a b)) := fun r hr => .inr ⟨HK.out, hr⟩
    clear hch hc hk HK
    by_cases ha0 : 0 ≤ a
    · by_cases hb0 : 0 ≤ b
      · obtain ⟨i, rfl⟩ := Int.eq_ofNat_of_zero_le ha0
        obtain ⟨k, rfl⟩ := Int.eq_ofNat_of_zero_le hb0
        by_cases hin : i < l.length
        · by_cases hkn : k < l.length
          · have HAL : Hid (ahL l (wBl l) (wLk l) (i : Int) (k : Int) = (decide (0 ≤ ofP l (wBl l) i) && decide (0 ≤ ofP l (wBl l) k) && aheadP l (wBl l) (wLk l) (ofP l (wBl l) i).toNat (ofP l (wBl l) k).toNat)) := by
              show ahL _ _ _ _ _ = _
              unfold ahL
              rw [decide_eq_true ha0, decide_eq_true hb0, decide_eq_true (show (i : Int) < (l.length : Int) by omega), decide_eq_true (show (k : Int) < (l.length : Int) by omega)]
              simp only [Int.toNat_natCast, Bool.true_and]
            have d1 : (i : Int) < (l.length : Int) := by omega
            have d2 : (k : Int) < (l.length : Int) := by omega
            have d3 : ¬ ((i : Int) < 0) := by omega
            have d4 : ¬ ((k : Int) < 0) := by omega
            have HIN := Lib.hid (And.intro hin hkn)
            clear hin hkn
            go_enter Try.func54, Try.ntmps54
            go_wp2_with (go_at_call 59; refine halt_ ?_)
            refine Halt_.go ?_
            refine HCH.out.mono ?_
            rintro e w1 ⟨rfl, hb⟩
            have HB := Lib.hid hb
            have HC1 := Lib.hid ((HC.out.below hb).more hb.size)
            have hsz1 := hb.size
            clear hb HCH HC
            go_wp2_with (go_at_call 85; refine halt_ ?_)
            refine Halt_.go ?_
            refine (HWV.out w1 HC1.out).mono ?_
            rintro e w2 ⟨rfl, hb1, Ap, cp, Ab, cb, hd, sn, tn, hw⟩
            have HB2 := Lib.hid (HB.out.trans (hb1.mono hsz1))
            have HW := Lib.hid hw
            have hc1 := hw.c1
            have hofi := hw.of i HIN.out.1
            have hofk := hw.of k HIN.out.2
            clear hb1 HWV HB hw HC1
            generalize hgw : w1.heap.size + 1 = gW at *
            clear hgw
            rcases ofP_cases l (wBl l) i with hi1 | ⟨p, hp, hpN⟩
            · have HI1 := Lib.hid hi1
              rw [hi1] at hofi
              clear hi1
              go_wp2
              go_quiet (fail)
              go_wp2
              go_ret
              exact ⟨_, rfl, HR.out false (by rw [HAL.out, HI1.out]; rfl), bdrewN HB2.out _⟩
            · have HP := Lib.hid hp
              rw [hp] at hofi
              have i1 : (0 : Int) ≤ (p : Int) := by omega
              clear hp
              rcases ofP_cases l (wBl l) k with hi1 | ⟨q, hq, hqN⟩
              · have HI1 := Lib.hid hi1
                rw [hi1] at hofk
                clear hi1
                go_wp2
                go_quiet (fail)
                go_wp2
                go_ret
                exact ⟨_, rfl, HR.out false (by rw [HAL.out, HI1.out]; simp), bdrewN HB2.out _⟩
              · have HQ := Lib.hid hq
                rw [hq] at hofk
                have i2 : (0 : Int) ≤ (q : Int) := by omega
                clear hq
                have HAH := Lib.hid (fun n => aheadW_any w2.heap.size gW _ Ap cp Ab cb hd l (wBl l) (wLk l) sn tn (w2.drewN n) (HW.out.below (bdrewN (Below.refl _ _) n)) HHB.out p q hpN hqN)
                clear hpN hqN
                go_wp2
                go_quiet ((go_at_call 88; exact Calls.quiet_of (HAH.out _)))
                go_wp2
                go_ret
                exact ⟨_, rfl, HR.out _ (by rw [HAL.out, HP.out, HQ.out, decide_eq_true i1, decide_eq_true i2]; simp), bdrewN HB2.out _⟩
          · have d1 : (i : Int) < (l.length : Int) := by omega
            have d2 : ¬ ((k : Int) < (l.length : Int)) := by omega
            have d5 : (l.length : Int) ≤ (k : Int) := by omega
            have d3 : ¬ ((i : Int) < 0) := by omega
            have d4 : ¬ ((k : Int) < 0) := by omega
            have HAL : Hid (false = ahL l (wBl l) (wLk l) (i : Int) (k : Int)) := by
              show false = ahL _ _ _ _ _
              unfold ahL
              rw [decide_eq_false d2]
              simp
            go_enter Try.func54, Try.ntmps54
            go_wp2_with (go_at_call 59; refine halt_ ?_)
            refine Halt_.go ?_
            refine HCH.out.mono ?_
            rintro e w1 ⟨rfl, hb⟩
            have HB := Lib.hid hb
            have HC1 := Lib.hid ((HC.out.below hb).more hb.size)
            have hsz1 := hb.size
            clear hb HCH HC
            clear HWV HC1
            go_wp2
            go_ret
            exact ⟨_, rfl, HR.out _ HAL.out, HB.out⟩
        · have d1 : ¬ ((i : Int) < (l.length : Int)) := by omega
          have d5 : (l.length : Int) ≤ (i : Int) := by omega
          have d3 : ¬ ((i : Int) < 0) := by omega
          have d4 : ¬ ((k : Int) < 0) := by omega
          have HAL : Hid (false = ahL l (wBl l) (wLk l) (i : Int) (k : Int)) := by
            show false = ahL _ _ _ _ _
            unfold ahL
            rw [decide_eq_false d1]
            simp
          go_enter Try.func54, Try.ntmps54
          go_wp2_with (go_at_call 59; refine halt_ ?_)
          refine Halt_.go ?_
          refine HCH.out.mono ?_
          rintro e w1 ⟨rfl, hb⟩
          have HB := Lib.hid hb
          have HC1 := Lib.hid ((HC.out.below hb).more hb.size)
          have hsz1 := hb.size
          clear hb HCH HC
          clear HWV HC1
          go_wp2
          go_ret
          exact ⟨_, rfl, HR.out _ HAL.out, HB.out⟩
      · have d3 : ¬ (a < 0) := by omega
        have d4 : b < 0 := by omega
        have HAL : Hid (false = ahL l (wBl l) (wLk l) a b) := by
          show false = ahL _ _ _ _ _
          unfold ahL
          rw [decide_eq_false hb0]
          simp
        clear hb0
        go_enter Try.func54, Try.ntmps54
        go_wp2_with (go_at_call 59; refine halt_ ?_)
        refine Halt_.go ?_
        refine HCH.out.mono ?_
        rintro e w1 ⟨rfl, hb⟩
        have HB := Lib.hid hb
        have HC1 := Lib.hid ((HC.out.below hb).more hb.size)
        have hsz1 := hb.size
        clear hb HCH HC
        clear HWV HC1
        go_wp2
        go_ret
        exact ⟨_, rfl, HR.out _ HAL.out, HB.out⟩
    · have d3 : a < 0 := by omega
      have HAL : Hid (false = ahL l (wBl l) (wLk l) a b) := by
        show false = ahL _ _ _ _ _
        unfold ahL
        rw [decide_eq_false ha0]
        simp
      clear ha0
      go_enter Try.func54, Try.ntmps54
      go_wp2_with (go_at_call 59; refine halt_ ?_)
      refine Halt_.go ?_
      refine HCH.out.mono ?_
      rintro e w1 ⟨rfl, hb⟩
      have HB := Lib.hid hb
      have HC1 := Lib.hid ((HC.out.below hb).more hb.size)
      have hsz1 := hb.size
      clear hb HCH HC
      clear HWV HC1
      go_wp2
      go_ret
      exact ⟨_, rfl, HR.out _ HAL.out, HB.out⟩
end Go.Proofs.Ytjifpjfinffamaa
end
section
namespace Go.Proofs.Ytjifpjfinffamaa
open Go.RowKit
def tellF (l : List Ev) (bl : List Bl) (lk : List Nat) (e : Nat) (w0 : Int) (n : Nat) : Int × Int := ((accL l bl l.length).take n).foldl (tellS l bl lk e) (-1, w0)
theorem tellF_succ {l : List Ev} {bl : List Bl} {lk : List Nat} {e : Nat} {w0 : Int} {n : Nat} {a : Acc} (h : (accL l bl l.length)[n]? = some a) : tellF l bl lk e w0 (n + 1) = tellS l bl lk e (tellF l bl lk e w0 n) a := by
  unfold tellF
  rw [List.take_add_one, h]
  simp
theorem tellF_best {l : List Ev} {bl : List Bl} {lk : List Nat} (hF : BlkF l bl lk) (e : Nat) (w0 : Int) : ∀ n, n ≤ (accL l bl l.length).length → (tellF l bl lk e w0 n).1 = -1 ∨ ∃ q : Nat, (tellF l bl lk e w0 n).1 = (q : Int) ∧ q < (pts l bl).length
  | 0, _ => .inl rfl
  | n + 1, hn => by
    have ih := tellF_best hF e w0 n (by omega)
    have ha := List.getElem?_eq_getElem (show n < (accL l bl l.length).length by omega)
    rw [tellF_succ ha]
    generalize hA : (accL l bl l.length)[n] = a at *
    have hm : a ∈ accL l bl l.length := List.mem_of_getElem? ha
    obtain ⟨h1, h2⟩ := accL_mem.1 hm
    have hof := accAt_of hF h1 h2
    unfold tellS
    split
    · split
      · have := (ofP_lt hof).1
        exact .inr ⟨(ofP l bl a.ev).toNat, by omega, this⟩
      · exact ih
    · exact ih
def word0 (l : List Ev) (ws : List Int) (e : Nat) : Int := if (l.getD e ev0).addr < (ws.length : Int) then ws.getD (l.getD e ev0).addr.toNat 0 else 0
def toldV (l : List Ev) (bl : List Bl) (lk : List Nat) (ws : List Int) (e : Int) : Int × Bool :=
  if ((raL l bl lk).length = 0 ∧ 0 ≤ e ∧ e < l.length) ∧ (l.getD e.toNat ev0).kind = 10 then ((tellF l bl lk e.toNat (word0 l ws e.toNat) (accL l bl l.length).length).2, true) else (0, false)
end Go.Proofs.Ytjifpjfinffamaa
end
section
namespace Go.Proofs.Ytjifpjfinffamaa
open Go.RowKit
set_option linter.unusedSimpArgs false in
set_option maxRecDepth 100000 in
set_option maxHeartbeats 32000000 in
theorem told18_good (A : Option Addr) (cap : Nat) (l : List Ev) (Aw : Option Addr) (cw : Nat) (ws : List Int) (i : Nat) (w : World) (hl : l.length ≤ 1000) (hk : chk ss0 l 0 = (-1, 0)) (hc : EvR w w.heap.size A l) (hw : RK .u64 w w.heap.size Aw ws) (hwl : ws.length ≤ 1152921504606846976) (hi : i < l.length) :
    Calls Try.prog 55 #[.slice A l.length cap, .slice Aw ws.length cw, .int .i64 (i : Int)] w fun e w' => e = .returned (.tuple #[.int .u64 (toldV l (wBl l) (wLk l) ws i).1, .bool (toldV l (wBl l) (wLk l) ws i).2]) ∧ Below w.heap.size w w' := by
  have hch := evCheck_any A cap l w (by omega) hc
  rw [hk] at hch
  have HCH := Lib.hid hch
  have HWV := Lib.hid (fun W (h : EvR W W.heap.size A l) => weave_any A cap l W (by omega) hk h)
  have HHB := Lib.hid (HBk.of (l := l) (by omega) hk)
  have HC := Lib.hid hc
  have HWD := Lib.hid hw
  have hnp := pts_len l (wBl l)
  have hnb := wBl_le l
  have hfd := field99 (-1) 0
  have i1 : (0 : Int) ≤ (i : Int) := by omega
  have i2 : (i : Int) < (l.length : Int) := by omega
  have t1 : decide ((i : Int) < 0) = false := by simp
  have t2 : decide (l.length ≤ i) = false := by simp; omega
  obtain ⟨V, hV⟩ : ∃ V, V = toldV l (wBl l) (wLk l) ws i := ⟨_, rfl⟩
  have HV := Lib.hid hV
  have HTV : Hid (toldV l (wBl l) (wLk l) ws i = if (raL l (wBl l) (wLk l)).length = 0 ∧ (l.getD i ev0).kind = 10 then ((tellF l (wBl l) (wLk l) i (word0 l ws i) (accL l (wBl l) l.length).length).2, true) else (0, false)) := by
    show toldV _ _ _ _ _ = _
    unfold toldV
    rw [Int.toNat_natCast]
    by_cases h1 : (raL l (wBl l) (wLk l)).length = 0
    · by_cases h2 : (l.getD i ev0).kind = 10
      · rw [if_pos ⟨⟨h1, by omega, by omega⟩, h2⟩, if_pos ⟨h1, h2⟩]
      · rw [if_neg (fun h => h2 h.2), if_neg (fun h => h2 h.2)]
    · rw [if_neg (fun h => h1 h.1.1), if_neg (fun h => h1 h.1)]
  rw [← hV]
  clear hch hc hk hw hV
  go_enter Try.func55, Try.ntmps55
  go_wp2_with (go_at_call 59; refine halt_ ?_)
  refine Halt_.go ?_
  refine HCH.out.mono ?_
  rintro e w1 ⟨rfl, hb⟩
  have HB := Lib.hid hb
  have HC1 := Lib.hid ((HC.out.below hb).more hb.size)
  have hsz1 := hb.size
  unfold oddV
  obtain ⟨eb, eo, ev, hA, heb, he, hwd, e0, e1, e2, e3, e4, e5⟩ := HC.out.at_ hb hi
  subst hA
  have HE := Lib.hid he.out
  obtain ⟨t, kd, ad, x, ow, er⟩ := ev
  simp only at e0 e1 e2 e3 e4 e5
  clear hb HCH he e0 e3 e4 e5
  have HGD : Hid (l.getD i ev0 = ⟨t, kd, ad, x, ow, er⟩) := by
    show l.getD i ev0 = _
    simp [List.getD, HE.out]
  by_cases hk10 : kd = 10
  · subst hk10
    go_wp2_with (go_at_call 85; refine halt_ ?_)
    refine Halt_.go ?_
    refine (HWV.out w1 HC1.out).mono ?_
    rintro e w2 ⟨rfl, hb1, Ap, cp, Ab, cb, hd, sn, tn, hw⟩
    have HWW := Lib.hid hw
    have HB2 := Lib.hid (HB.out.trans (hb1.mono hsz1))
    have HC2 := Lib.hid ((HC1.out.below hb1).more hb1.size)
    have hsz2 := hb1.size
    have f2 := (hb1.cell (p := ⟨eb, eo + i * 6 + 2, none⟩) (by show eb < _; omega)).trans e2
    generalize hgw : w1.heap.size + 1 = gW at *
    have HRC := Lib.hid (racesW_any w2.heap.size gW w1.heap.size Ap cp Ab cb hd l (wBl l) (wLk l) sn tn (some ⟨eb, eo, none⟩) cap w2 HWW.out HHB.out (Nat.le_refl _) HC2.out hl)
    have HU : Hid (0 ≤ ad ∧ ad < 18446744073709551616) := hwd.1
    clear hgw hb1 hw HWV HC1 HB e1 e2 hwd
    go_wp2_with (go_at_call 87; refine halt_ ?_)
    refine Halt_.go ?_
    refine HRC.out.mono ?_
    rintro e w3 ⟨Ar, cr, rfl, hz9, hb3⟩
    clear hz9
    have HB3 := Lib.hid (HB2.out.trans (hb3.mono (by omega)))
    have HC3 := Lib.hid ((HC2.out.below hb3).more hb3.size)
    have HW3 := Lib.hid ((HWW.out.below hb3).more hb3.size)
    have f3 := (hb3.cell (p := ⟨eb, eo + i * 6 + 2, none⟩) (by show eb < _; omega)).trans f2
    have hsz3 := hb3.size
    clear hb3 HRC HB2 HC2 HWW f2
    by_cases hr0 : (raL l (wBl l) (wLk l)).length = 0
    · have HF : Hid (V = ((tellF l (wBl l) (wLk l) i (word0 l ws i) (accL l (wBl l) l.length).length).2, true)) := by
        show V = _
        rw [HV.out, HTV.out, if_pos ⟨hr0, by rw [HGD.out]⟩]
      have HW0 : Hid (word0 l ws i = if ad < (ws.length : Int) then ws.getD ad.toNat 0 else 0) := by
        show word0 _ _ _ = _
        unfold word0
        rw [HGD.out]
      rw [hr0]
      have hacc := accesses_any w3.heap.size gW w1.heap.size Ap cp Ab cb hd l (wBl l) (wLk l) sn tn (some ⟨eb, eo, none⟩) cap w3 HW3.out HHB.out (Nat.le_refl _) HC3.out (by omega)
      have hxl := accL_len (l := l) (bl := wBl l) l.length
      have HACC := Lib.hid hacc
      have hwr : ad < (ws.length : Int) → ∃ bw ow' y, Aw = some ⟨bw, ow', none⟩ ∧ w3.cell? ⟨bw, ow' + ad.toNat, none⟩ = some (.int .u64 y) ∧ Hid (y = ws.getD ad.toNat 0) := fun had => by
        obtain ⟨bw, ow', y, hAw, hbw, hy, hcw⟩ := HWD.out.at_ HB3.out (k := ad.toNat) (by have := HU.out.1; omega)
        refine ⟨bw, ow', y, hAw, hcw, ?_⟩
        show y = _
        simp [List.getD, hy.out]
      have HWR := Lib.hid hwr
      have hu1 := HU.out.1
      have hu2 := HU.out.2
      clear hr0 hacc hwr
      go_upto_if 51 with fail
      go_cut [10] from 43 to 59 (fun s10 wx => s10 = .int .u64 (word0 l ws i) ∧ wx = w3)
      case first =>
        by_cases had : ad < (ws.length : Int)
        · obtain ⟨bw, ow', y, rfl, hcw, HY⟩ := HWR.out had
          have HW1 : Hid (word0 l ws i = y) := by
            show _ = _
            rw [HW0.out, if_pos had, HY.out]
          go_wp2_with fail
          go_meet
          exact ⟨by rw [HW1.out], rfl⟩
        · have HW1 : Hid (word0 l ws i = 0) := by
            show _ = _
            rw [HW0.out, if_neg had]
          go_wp2_with fail
          go_meet
          exact ⟨by rw [HW1.out], rfl⟩
      case rest =>
        obtain ⟨rfl, rfl⟩ := hcut
        generalize hw0 : word0 l ws i = wd at *
        clear hw0 HW0 HWR
        go_wp2_with (go_at_call 86; refine halt_ ?_)
        refine Halt_.go ?_
        refine HACC.out.mono ?_
        rintro e w4 ⟨Aa, ca, rfl, hoa, hb4⟩
        have HOA := Lib.hid hoa
        have HB4 := Lib.hid (HB3.out.trans (hb4.mono (by omega)))
        have HW4 := Lib.hid ((HW3.out.below hb4).more hb4.size)
        have HC4 := Lib.hid ((HC3.out.below hb4).more hb4.size)
        have hsz4 := hb4.size
        have HBS := Lib.hid (fun n hn => tellF_best HHB.out.f i wd n hn)
        have HOF : Hid (∀ a ∈ accL l (wBl l) l.length, a.ev < l.length ∧ 0 ≤ ofP l (wBl l) a.ev) := fun a ha => by
          obtain ⟨h1, h2⟩ := accL_mem.1 ha
          exact ⟨h1, accAt_of HHB.out.f h1 h2⟩
        have HST := Lib.hid (fun n a h => tellF_succ (l := l) (bl := wBl l) (lk := wLk l) (e := i) (w0 := wd) (n := n) (a := a) h)
        have hpi : Hid (∃ pe : Nat, ofP l (wBl l) i = (pe : Int) ∧ pe < (pts l (wBl l)).length) := by
          rcases ofP_cases l (wBl l) i with h | h
          · have := ofP_plain HHB.out.f hi (by rw [HGD.out]; exact .inl rfl)
            omega
          · exact h
        obtain ⟨pe, hpe, hpeN⟩ := hpi.out
        have HPE := Lib.hid hpe
        clear hpi hpe hoa hb4 HB3 HC3 HW3 HACC f3
        obtain ⟨X, hX⟩ : ∃ X, X = accL l (wBl l) l.length := ⟨_, rfl⟩
        obtain ⟨G, hG⟩ : ∃ G, G = tellF l (wBl l) (wLk l) i wd := ⟨_, rfl⟩
        rw [← hX, ← hG] at HF HBS
        rw [← hX] at HOF HOA hxl
        rw [← hX]
        rw [← hG, ← hX] at HST
        have HG0 : Hid (G 0 = (-1, wd)) := by
          show G 0 = _
          rw [hG]
          rfl
        clear hX hG
        go_wp2
        go_loopw [64, 9, 10] (fun s64 s9 s10 wr => ∃ (k : Nat) (s1 s2 : Int), k ≤ X.length ∧ s64 = .int .i64 k ∧ s9 = .int .i64 s1 ∧ s10 = .int .u64 s2 ∧ Hid (G k = (s1, s2)) ∧ Hid (Below w4.heap.size w4 wr)) (fun s64 _ _ _ => X.length - (intOf s64).toNat)
        case atStart => exact ⟨0, -1, wd, Nat.zero_le _, rfl, rfl, rfl, HG0, Below.refl _ _⟩
        case round =>
          obtain ⟨k, s1, s2, hkn, rfl, rfl, rfl, HG, HBL⟩ := hrel
          clear HG0
          by_cases hlt : k < X.length
          · obtain ⟨a, ha⟩ : ∃ a, X[k]? = some a := ⟨_, List.getElem?_eq_getElem hlt⟩
            have hma := HOF.out a (List.mem_of_getElem? ha)
            have hst := HST.out k a ha
            rw [HG.out] at hst
            obtain ⟨ga, capa, hva, hba, hla⟩ := World.ownsRow.form HOA.out (by omega)
            have hAa : Aa = some ⟨ga, 0, none⟩ := by injection hva
            subst hAa
            obtain ⟨c0, c1, c2, c3, c4⟩ := HOA.out.at_ ha
            have hce : ∀ (j : Nat) v, w4.cell? ⟨ga, j, none⟩ = some v → wr.cell? ⟨ga, j, none⟩ = some v := fun j v hv => (HBL.out.cell (p := ⟨ga, j, none⟩) hla).trans hv
            replace c0 := hce _ _ c0
            replace c1 := hce _ _ c1
            replace c2 := hce _ _ c2
            replace c3 := hce _ _ c3
            replace c4 := hce _ _ c4
            obtain ⟨w5, hw5⟩ : ∃ w5, w5 = wr.alloc (.cells #[.int .i64 (a.ev : Int), .int .i64 a.th, .int .u64 a.ad, .bool a.wr, .bool a.pl] 83) := ⟨_, rfl⟩
            have hrow : w5.heap[wr.heap.size]? = some (.cells (acell a).toArray 83 (0, 0)) := by rw [hw5]; exact heap_at _ _ _ rfl
            have hb5 : Below w4.heap.size w4 w5 := by rw [hw5]; exact HBL.out.alloc HBL.out.size _
            have HB5 := Lib.hid hb5
            have HW5 := Lib.hid (HW4.out.below hb5)
            obtain ⟨p, hp⟩ : ∃ p : Nat, ofP l (wBl l) a.ev = (p : Int) := ⟨(ofP l (wBl l) a.ev).toNat, by have := hma.2; omega⟩
            have hpl := (ofP_lt hma.2).1
            have hpN : p < (pts l (wBl l)).length := by rw [hp] at hpl; simpa using hpl
            have hc1 := HW5.out.c1
            have hofa := HW5.out.of a.ev hma.1
            have hofi := HW5.out.of i hi
            rw [hp] at hofa
            rw [HPE.out] at hofi
            obtain ⟨eb', eo', ev1, hA1, hz1, he1, hz2, hz3, hz4, g2, hz5, hz6, hz7⟩ := HC4.out.at_ hb5 hi
            clear hz1 hz2 hz3 hz4 hz5 hz6 hz7
            injection hA1 with hA1
            injection hA1 with hA1 hA2
            subst hA1 hA2
            have he1' := he1.out
            rw [HE.out] at he1'
            obtain rfl := Option.some.inj he1'
            obtain ⟨eb', eo', ev2, hA1, hz1, he2, hwd2, hz2, hz3, hz4, g3, hz5, hz6⟩ := HC4.out.at_ hb5 hma.1
            clear hz1 hz2 hz3 hz4 hz5 hz6
            injection hA1 with hA1
            injection hA1 with hA1 hA2
            subst hA1 hA2
            obtain ⟨xw, hxw⟩ : ∃ y, y = ev2.word := ⟨_, rfl⟩
            rw [← hxw] at g3
            have HXW : Hid ((l.getD a.ev ev0).word = xw) := by
              show _ = xw
              rw [hxw]
              simp [List.getD, he2.out]
            simp only at g2
            obtain ⟨u, hu⟩ : ∃ u, u = aheadP l (wBl l) (wLk l) p pe := ⟨_, rfl⟩
            have HST2 : Hid (G (k + 1) = if a.wr = true ∧ a.ad = ad ∧ u = true then (if s1 < 0 ∨ s1 = (p : Int) ∨ aheadP l (wBl l) (wLk l) s1.toNat p = true then ((p : Int), xw) else (s1, s2)) else (s1, s2)) := by
              show G (k + 1) = _
              rw [hst]
              unfold tellS
              rw [hp, HPE.out, HGD.out, HXW.out, Int.toNat_natCast, Int.toNat_natCast, ← hu]
            have HAH := Lib.hid (fun (W : World) (hb : Below w4.heap.size w5 W) (p q : Nat) (hp : p < (pts l (wBl l)).length) (hq : q < (pts l (wBl l)).length) => aheadW_any w4.heap.size gW w1.heap.size Ap cp Ab cb hd l (wBl l) (wLk l) sn tn W (HW5.out.below hb) HHB.out p q hp hq)
            have HS1 : Hid (s1 = -1 ∨ ∃ q : Nat, s1 = (q : Int) ∧ q < (pts l (wBl l)).length) := by
              have := HBS.out k hkn
              rw [HG.out] at this
              exact this
            have x0 : w5.cell? ⟨wr.heap.size, 0, none⟩ = some (.int .i64 (a.ev : Int)) := by rw [cell_of_row _ _ 0 _ 83 (0, 0) hrow]; rfl
            have x2 : w5.cell? ⟨wr.heap.size, 2, none⟩ = some (.int .u64 a.ad) := by rw [cell_of_row _ _ 2 _ 83 (0, 0) hrow]; rfl
            have x3 : w5.cell? ⟨wr.heap.size, 3, none⟩ = some (.bool a.wr) := by rw [cell_of_row _ _ 3 _ 83 (0, 0) hrow]; rfl
            have j1 : (0 : Int) ≤ (k : Int) := by omega
            have j2 : (k : Int) < (X.length : Int) := by omega
            have j3 : (0 : Int) ≤ (a.ev : Int) := by omega
            have j4 : (a.ev : Int) < (l.length : Int) := by have := hma.1; omega
            have HWE := Lib.hid hw5
            have HU2 := Lib.hid hu
            clear ha hma hst hva hce hrow hb5 hp hpl he1 he1' he2 hwd2 hxw hw5 hu HG HST
            go_upto_region 12 with fail
            rw [← HWE.out]
            clear HWE c0 c1 c2 c3 c4
            go_quiet (fail)
            have hcs : (∀ q : Addr, (w5.drewN nq).cell? q = w5.cell? q) := fun _ => rfl
            rw [← hcs] at x0 x2 x3 hc1 hofi g2 g3
            have HB6 := Lib.hid (bdrewN HB5.out nq)
            have HA6 := Lib.hid (fun (W : World) (hb : Below w4.heap.size (w5.drewN nq) W) (p q : Nat) (hp : p < (pts l (wBl l)).length) (hq : q < (pts l (wBl l)).length) => HAH.out W ((bdrewN (Below.refl _ _) nq).trans hb) p q hp hq)
            have hs6 : w4.heap.size ≤ (w5.drewN nq).heap.size := HB6.out.size
            clear hcs HB5 HAH hofa
            generalize w5.drewN nq = w6 at *
            have HCU : Hid (∀ n, Calls Try.prog 88 #[.pointer (some ⟨gW, 0, none⟩), .int .i64 (p : Int), .int .i64 (pe : Int)] (w6.drewN n) fun e w' => e = .returned (.bool u) ∧ ∃ m, w' = (w6.drewN n).drewN m) := fun n => by
              rw [HU2.out]
              exact HA6.out (w6.drewN n) (bdrewN (Below.refl _ _) n) p pe hpN hpeN
            rcases Bool.eq_false_or_eq_true a.wr with wa | wa
            · rw [wa] at x3
              have HWA := Lib.hid wa
              clear wa
              by_cases had : a.ad = ad
              · have HAD := Lib.hid had
                rw [had] at x2
                clear had
                rcases Bool.eq_false_or_eq_true u with hu | hu
                · subst hu
                  go_wp2
                  go_quiet ((go_at_call 88; exact Calls.quiet_of (HCU.out _)))
                  have HB7 := Lib.hid (bdrewN HB6.out nq)
                  have HA7 := Lib.hid (fun (W : World) (hb : Below w4.heap.size (w6.drewN nq) W) (p q : Nat) (hp : p < (pts l (wBl l)).length) (hq : q < (pts l (wBl l)).length) => HA6.out W ((bdrewN (Below.refl _ _) nq).trans hb) p q hp hq)
                  have hcs : (∀ q : Addr, (w6.drewN nq).cell? q = w6.cell? q) := fun _ => rfl
                  rw [← hcs] at x0 g3
                  clear hcs HB6 HA6 HCU hc1 hofi g2 x2 x3
                  generalize w6.drewN nq = w7 at *
                  rcases HS1.out with h1 | ⟨q, h1, hqN⟩
                  · have HG9 : Hid (G (k + 1) = ((p : Int), xw)) := by
                      show _ = _
                      rw [HST2.out, if_pos ⟨HWA.out, HAD.out, by trivial⟩, if_pos (.inl (by omega))]
                    subst h1
                    go_wp2
                    go_quiet (fail)
                    have HB9 := Lib.hid (bdrewN HB7.out nq)
                    clear x0 g3
                    go_wp2
                    go_roundw
                    case rel => exact ⟨k + 1, p, xw, hlt, by go_num, rfl, rfl, HG9, HB9⟩
                    case measure => simp [intOf]; omega
                  · subst h1
                    by_cases hqp : q = p
                    · have HG9 : Hid (G (k + 1) = ((p : Int), xw)) := by
                        show _ = _
                        rw [HST2.out, if_pos ⟨HWA.out, HAD.out, by trivial⟩, if_pos (.inr (.inl (by omega)))]
                      have k2 : ((q : Int) == (p : Int)) = true := by simp; omega
                      have k3 : ¬ (q : Int) < 0 := by omega
                      clear hqp
                      go_wp2
                      go_quiet (fail)
                      have HB9 := Lib.hid (bdrewN HB7.out nq)
                      clear x0 g3
                      go_wp2
                      go_roundw
                      case rel => exact ⟨k + 1, p, xw, hlt, by go_num, rfl, rfl, HG9, HB9⟩
                      case measure => simp [intOf]; omega
                    · have k2 : ((q : Int) == (p : Int)) = false := by simp; omega
                      have k3 : ¬ (q : Int) < 0 := by omega
                      have hqp2 : ¬ (q : Int) = (p : Int) := by omega
                      obtain ⟨v, hv⟩ : ∃ v, v = aheadP l (wBl l) (wLk l) q p := ⟨_, rfl⟩
                      have HA8 : Hid (Calls Try.prog 88 #[.pointer (some ⟨gW, 0, none⟩), .int .i64 (q : Int), .int .i64 (p : Int)] w7 fun e w' => e = .returned (.bool v) ∧ ∃ m, w' = w7.drewN m) := by
                        rw [hv]
                        exact HA7.out w7 (Below.refl _ _) q p hqN hpN
                      have HG8 : Hid (G (k + 1) = if v = true then ((p : Int), xw) else ((q : Int), s2)) := by
                        show _ = _
                        rw [HST2.out, if_pos ⟨HWA.out, HAD.out, by trivial⟩, Int.toNat_natCast, ← hv]
                        by_cases hv1 : v = true
                        · rw [if_pos (.inr (.inr hv1)), if_pos hv1]
                        · rw [if_neg hv1, if_neg]
                          rintro (h | h | h)
                          · exact k3 h
                          · exact hqp2 h
                          · exact hv1 h
                      clear hv hqp hqp2 HST2
                      go_wp2_with (go_at_call 88; refine halt_ ?_)
                      refine Halt_.go ?_
                      refine HA8.out.mono ?_
                      rintro e w8 ⟨rfl, m8, rfl⟩
                      have HB8 := Lib.hid (bdrewN HB7.out m8)
                      have hcs : (∀ q : Addr, (w7.drewN m8).cell? q = w7.cell? q) := fun _ => rfl
                      rw [← hcs] at x0 g3
                      clear hcs HA8 HB7 HA7
                      generalize w7.drewN m8 = w8 at *
                      rcases Bool.eq_false_or_eq_true v with hv | hv
                      · subst hv
                        have HG9 : Hid (G (k + 1) = ((p : Int), xw)) := by
                          show _ = _
                          rw [HG8.out, if_pos rfl]
                        go_wp2
                        go_quiet (fail)
                        have HB9 := Lib.hid (bdrewN HB8.out nq)
                        clear x0 g3
                        go_wp2
                        go_roundw
                        case rel => exact ⟨k + 1, p, xw, hlt, by go_num, rfl, rfl, HG9, HB9⟩
                        case measure => simp [intOf]; omega
                      · subst hv
                        have HG9 : Hid (G (k + 1) = ((q : Int), s2)) := by
                          show _ = _
                          rw [HG8.out, if_neg (by decide)]
                        go_wp2
                        go_roundw
                        case rel => exact ⟨k + 1, q, s2, hlt, by go_num, rfl, rfl, HG9, HB8⟩
                        case measure => simp [intOf]; omega
                · subst hu
                  have HG9 : Hid (G (k + 1) = (s1, s2)) := by
                    show _ = _
                    rw [HST2.out, if_neg (fun h => by cases h.2.2)]
                  go_wp2
                  go_quiet ((go_at_call 88; exact Calls.quiet_of (HCU.out _)))
                  have HB9 := Lib.hid (bdrewN HB6.out nq)
                  clear x0 x2 x3 hc1 hofi g2 g3
                  go_wp2
                  go_roundw
                  case rel => exact ⟨k + 1, s1, s2, hlt, by go_num, rfl, rfl, HG9, HB9⟩
                  case measure => simp [intOf]; omega
              · have k1 : (a.ad != ad) = true := by simpa using had
                have HG9 : Hid (G (k + 1) = (s1, s2)) := by
                  show _ = _
                  rw [HST2.out, if_neg (fun h => had h.2.1)]
                clear had
                go_wp2
                go_quiet ((go_at_call 88; exact Calls.quiet_of (HCU.out _)))
                have HB9 := Lib.hid (bdrewN HB6.out nq)
                clear x0 x2 x3 hc1 hofi g2 g3
                go_wp2
                go_roundw
                case rel => exact ⟨k + 1, s1, s2, hlt, by go_num, rfl, rfl, HG9, HB9⟩
                case measure => simp [intOf]; omega
            · rw [wa] at x3
              have HG9 : Hid (G (k + 1) = (s1, s2)) := by
                show _ = _
                rw [HST2.out, if_neg (fun h => by rw [wa] at h; cases h.1)]
              clear wa
              go_wp2
              go_quiet ((go_at_call 88; exact Calls.quiet_of (HCU.out _)))
              have HB9 := Lib.hid (bdrewN HB6.out nq)
              clear x0 x2 x3 hc1 hofi g2 g3
              go_wp2
              go_roundw
              case rel => exact ⟨k + 1, s1, s2, hlt, by go_num, rfl, rfl, HG9, HB9⟩
              case measure => simp [intOf]; omega
          · have hk0 : k = X.length := by omega
            have hgk := HG.out
            rw [hk0] at hgk
            have HGK := Lib.hid hgk
            have k4 : ¬ (k : Int) < (X.length : Int) := by omega
            have HBF := Lib.hid (HB4.out.trans (HBL.out.mono (by have := HB4.out.size; omega)))
            clear hk0 hgk
            go_wp2
            go_ret2
            exact ⟨by rw [HF.out, HGK.out]; rfl, HBF.out⟩
    · have HF : Hid (V = (0, false)) := by
        show V = _
        rw [HV.out, HTV.out, if_neg (fun h => hr0 h.1)]
      generalize hn : (raL l (wBl l) (wLk l)).length = n at *
      have k3 : (0 : Int) < (n : Int) := by omega
      clear hn hr0
      go_wp2
      go_ret2
      exact ⟨by rw [HF.out]; rfl, HB3.out⟩
  · have k1 : (kd != 10) = true := by simpa using hk10
    have HF : Hid (V = (0, false)) := by
      show V = _
      rw [HV.out, HTV.out, if_neg]
      rintro ⟨_, h⟩
      rw [HGD.out] at h
      exact hk10 h
    clear hk10 HWV HC1 hwd
    go_wp2
    go_ret2
    exact ⟨by rw [HF.out]; rfl, HB.out⟩
end Go.Proofs.Ytjifpjfinffamaa
end
section
namespace Go.Proofs.Ytjifpjfinffamaa
open Go.RowKit
set_option linter.unusedSimpArgs false in
set_option maxRecDepth 100000 in
set_option maxHeartbeats 3200000 in
theorem told18_any (A : Option Addr) (cap : Nat) (l : List Ev) (Aw : Option Addr) (cw : Nat) (ws : List Int) (i : Int) (w : World) (hl : l.length ≤ 1000) (hc : EvR w w.heap.size A l) (hw : RK .u64 w w.heap.size Aw ws) (hwl : ws.length ≤ 1152921504606846976) :
    Calls Try.prog 55 #[.slice A l.length cap, .slice Aw ws.length cw, .int .i64 i] w fun e w' => ∃ V : Int × Bool, e = .returned (.tuple #[.int .u64 V.1, .bool V.2]) ∧ ((chk ss0 l 0).2 ≠ 0 ∧ V = (0, false) ∨ chk ss0 l 0 = (-1, 0) ∧ V = toldV l (wBl l) (wLk l) ws i) ∧ Below w.heap.size w w' := by
  rcases check_split A cap l w hl hc with ⟨hk, x, hch⟩ | ⟨hk, hch⟩
  · have HK := Lib.hid hk
    have HCH := Lib.hid hch
    generalize chk ss0 l 0 = R at *
    obtain ⟨x', y⟩ := R
    have e1 : (y != 0) = true := by simpa using hk
    have hfd := field99 x y
    clear hk hch hc
    go_enter Try.func55, Try.ntmps55
    go_wp2_with (go_at_call 59; refine halt_ ?_)
    refine Halt_.go ?_
    refine HCH.out.mono ?_
    rintro e w1 ⟨rfl, hb⟩
    have HB := Lib.hid hb
    clear hb HCH hwl
    go_wp2
    go_ret2
    exact ⟨(0, false), rfl, .inl ⟨HK.out, rfl⟩, HB.out⟩
  · by_cases h0 : 0 ≤ i
    · obtain ⟨n, rfl⟩ := Int.eq_ofNat_of_zero_le h0
      by_cases hn : n < l.length
      · refine (told18_good A cap l Aw cw ws n w hl hk hc hw hwl hn).mono ?_
        rintro e w' ⟨h1, h2⟩
        exact ⟨_, h1, .inr ⟨hk, rfl⟩, h2⟩
      · have HV : Hid ((0, false) = toldV l (wBl l) (wLk l) ws (n : Int)) := by
          show _ = toldV _ _ _ _ _
          unfold toldV
          rw [if_neg]
          rintro ⟨⟨_, _, h⟩, _⟩
          omega
        have HK := Lib.hid hk
        have HCH := Lib.hid hch
        have hfd := field99 (-1) 0
        have t1 : decide ((n : Int) < 0) = false := by simp
        have t2 : decide (l.length ≤ n) = true := by simp; omega
        clear hk hch hc hwl h0
        go_enter Try.func55, Try.ntmps55
        go_wp2_with (go_at_call 59; refine halt_ ?_)
        refine Halt_.go ?_
        refine HCH.out.mono ?_
        rintro e w1 ⟨rfl, hb⟩
        have HB := Lib.hid hb
        clear hb HCH
        go_wp2
        go_ret2
        exact ⟨(0, false), rfl, .inr ⟨HK.out, HV.out⟩, HB.out⟩
    · have HV : Hid ((0, false) = toldV l (wBl l) (wLk l) ws i) := by
        show _ = toldV _ _ _ _ _
        unfold toldV
        rw [if_neg]
        rintro ⟨⟨_, h, _⟩, _⟩
        omega
      have HK := Lib.hid hk
      have HCH := Lib.hid hch
      have hfd := field99 (-1) 0
      have t1 : decide (i < 0) = true := by simp; omega
      have t0 : i < 0 := by omega
      clear hk hch hc hwl h0
      go_enter Try.func55, Try.ntmps55
      go_wp2_with (go_at_call 59; refine halt_ ?_)
      refine Halt_.go ?_
      refine HCH.out.mono ?_
      rintro e w1 ⟨rfl, hb⟩
      have HB := Lib.hid hb
      clear hb HCH
      go_wp2
      go_ret2
      exact ⟨(0, false), rfl, .inr ⟨HK.out, HV.out⟩, HB.out⟩
end Go.Proofs.Ytjifpjfinffamaa
end
section
namespace Go.Proofs.Ytjifpjfinffamaa
open Go.RowKit
set_option linter.unusedSimpArgs false in
set_option maxRecDepth 100000 in
set_option maxHeartbeats 32000000 in
theorem refTold_good (hi0 gW : Nat) (l : List Ev) (bl : List Bl) (lk : List Nat) (A : Option Addr) (cap : Nat) (Aw : Option Addr) (cw : Nat) (ws : List Int) (i : Nat) (w : World) (h : DR w hi0 gW l bl lk) (hB : HBk l bl lk) (hhi : hi0 ≤ w.heap.size) (hc : EvR w w.heap.size A l) (hl : l.length ≤ 1000) (hw : RK .u64 w w.heap.size Aw ws) (hwl : ws.length ≤ 1152921504606846976) (hi : i < l.length) :
    Calls Try.prog 56 #[.pointer (some ⟨gW, 0, none⟩), .slice A l.length cap, .slice Aw ws.length cw, .int .i64 (i : Int)] w fun e w' => e = .returned (.tuple #[.int .u64 (toldV l bl lk ws i).1, .bool (toldV l bl lk ws i).2]) ∧ Below w.heap.size w w' := by
  have HRC := Lib.hid (refRac_any hi0 gW l bl lk A cap w h hB hhi hc hl)
  have HDR := Lib.hid h
  have HHB := Lib.hid hB
  have HC := Lib.hid hc
  have HWD := Lib.hid hw
  have hnp := pts_len l bl
  have hnb := hB.nb
  have i1 : (0 : Int) ≤ (i : Int) := by omega
  have i2 : (i : Int) < (l.length : Int) := by omega
  have t1 : decide ((i : Int) < 0) = false := by simp
  have t2 : decide (l.length ≤ i) = false := by simp; omega
  obtain ⟨V, hV⟩ : ∃ V, V = toldV l bl lk ws i := ⟨_, rfl⟩
  have HV := Lib.hid hV
  have HTV : Hid (toldV l bl lk ws i = if (raL l bl lk).length = 0 ∧ (l.getD i ev0).kind = 10 then ((tellF l bl lk i (word0 l ws i) (accL l bl l.length).length).2, true) else (0, false)) := by
    show toldV _ _ _ _ _ = _
    unfold toldV
    rw [Int.toNat_natCast]
    by_cases h1 : (raL l bl lk).length = 0
    · by_cases h2 : (l.getD i ev0).kind = 10
      · rw [if_pos ⟨⟨h1, by omega, by omega⟩, h2⟩, if_pos ⟨h1, h2⟩]
      · rw [if_neg (fun h => h2 h.2), if_neg (fun h => h2 h.2)]
    · rw [if_neg (fun h => h1 h.1.1), if_neg (fun h => h1 h.1)]
  rw [← hV]
  clear h hB hc hw hV
  go_enter Try.func56, Try.ntmps56
  go_wp2_with (go_at_call 51; refine halt_ ?_)
  refine Halt_.go ?_
  refine HRC.out.mono ?_
  rintro e w3 ⟨Ar, cr, rfl, hz9, hb3⟩
  clear hz9
  have HB3 := Lib.hid hb3
  have HC3 := Lib.hid ((HC.out.below hb3).more hb3.size)
  have HW3 := Lib.hid (HDR.out.below (hb3.mono hhi))
  have hsz3 := hb3.size
  obtain ⟨eb, eo, ev, hA, heb, he, hwd, e0, e1, f3, e3, e4, e5⟩ := HC.out.at_ hb3 hi
  subst hA
  have HE := Lib.hid he.out
  obtain ⟨t, kd, ad, x, ow, er⟩ := ev
  simp only at e0 e1 f3 e3 e4 e5
  have HU : Hid (0 ≤ ad ∧ ad < 18446744073709551616) := hwd.1
  clear hb3 HRC he e0 e3 e4 e5 HDR hwd
  have HGD : Hid (l.getD i ev0 = ⟨t, kd, ad, x, ow, er⟩) := by
    show l.getD i ev0 = _
    simp [List.getD, HE.out]
  by_cases hr0 : (raL l bl lk).length = 0
  · by_cases hk10 : kd = 10
    · subst hk10
      have HF : Hid (V = ((tellF l bl lk i (word0 l ws i) (accL l bl l.length).length).2, true)) := by
        show V = _
        rw [HV.out, HTV.out, if_pos ⟨hr0, by rw [HGD.out]⟩]
      have HW0 : Hid (word0 l ws i = if ad < (ws.length : Int) then ws.getD ad.toNat 0 else 0) := by
        show word0 _ _ _ = _
        unfold word0
        rw [HGD.out]
      rw [hr0]
      have hxl := accL_len (l := l) (bl := bl) l.length
      have HACC := Lib.hid (refAcc_any hi0 gW l bl lk (some ⟨eb, eo, none⟩) cap w3 HW3.out HHB.out (by omega) HC3.out hl)
      have hwr : ad < (ws.length : Int) → ∃ bw ow' y, Aw = some ⟨bw, ow', none⟩ ∧ w3.cell? ⟨bw, ow' + ad.toNat, none⟩ = some (.int .u64 y) ∧ Hid (y = ws.getD ad.toNat 0) := fun had => by
        obtain ⟨bw, ow', y, hAw, hbw, hy, hcw⟩ := HWD.out.at_ HB3.out (k := ad.toNat) (by have := HU.out.1; omega)
        refine ⟨bw, ow', y, hAw, hcw, ?_⟩
        show y = _
        simp [List.getD, hy.out]
      have HWR := Lib.hid hwr
      have hu1 := HU.out.1
      have hu2 := HU.out.2
      clear hr0 hwr
      go_upto_if 48 with fail
      go_cut [11] from 40 to 56 (fun s10 wx => s10 = .int .u64 (word0 l ws i) ∧ wx = w3)
      case first =>
        by_cases had : ad < (ws.length : Int)
        · obtain ⟨bw, ow', y, rfl, hcw, HY⟩ := HWR.out had
          have HW1 : Hid (word0 l ws i = y) := by
            show _ = _
            rw [HW0.out, if_pos had, HY.out]
          go_wp2_with fail
          go_meet
          exact ⟨by rw [HW1.out], rfl⟩
        · have HW1 : Hid (word0 l ws i = 0) := by
            show _ = _
            rw [HW0.out, if_neg had]
          go_wp2_with fail
          go_meet
          exact ⟨by rw [HW1.out], rfl⟩
      case rest =>
        obtain ⟨rfl, rfl⟩ := hcut
        generalize hw0 : word0 l ws i = wd at *
        clear hw0 HW0 HWR
        go_wp2_with (go_at_call 50; refine halt_ ?_)
        refine Halt_.go ?_
        refine HACC.out.mono ?_
        rintro e w4 ⟨Aa, ca, rfl, hoa, hb4⟩
        have HOA := Lib.hid hoa
        have HB4 := Lib.hid (HB3.out.trans (hb4.mono hsz3))
        have HW4 := Lib.hid (HW3.out.below (hb4.mono (by omega)))
        have HC4 := Lib.hid ((HC3.out.below hb4).more hb4.size)
        have hsz4 := hb4.size
        have HBS := Lib.hid (fun n hn => tellF_best HHB.out.f i wd n hn)
        have HOF : Hid (∀ a ∈ accL l bl l.length, a.ev < l.length ∧ 0 ≤ ofP l bl a.ev) := fun a ha => by
          obtain ⟨h1, h2⟩ := accL_mem.1 ha
          exact ⟨h1, accAt_of HHB.out.f h1 h2⟩
        have HST := Lib.hid (fun n a h => tellF_succ (l := l) (bl := bl) (lk := lk) (e := i) (w0 := wd) (n := n) (a := a) h)
        have hpi : Hid (∃ pe : Nat, ofP l bl i = (pe : Int) ∧ pe < (pts l bl).length) := by
          rcases ofP_cases l bl i with h | h
          · have := ofP_plain HHB.out.f hi (by rw [HGD.out]; exact .inl rfl)
            omega
          · exact h
        obtain ⟨pe, hpe, hpeN⟩ := hpi.out
        have HPE := Lib.hid hpe
        clear hpi hpe hoa hb4 HB3 HC3 HW3 HACC f3 e1
        obtain ⟨X, hX⟩ : ∃ X, X = accL l bl l.length := ⟨_, rfl⟩
        obtain ⟨G, hG⟩ : ∃ G, G = tellF l bl lk i wd := ⟨_, rfl⟩
        rw [← hX, ← hG] at HF HBS
        rw [← hX] at HOF HOA hxl
        rw [← hX]
        rw [← hG, ← hX] at HST
        have HG0 : Hid (G 0 = (-1, wd)) := by
          show G 0 = _
          rw [hG]
          rfl
        clear hX hG
        go_wp2
        go_loopw [14, 13, 11] (fun s64 s9 s10 wr => ∃ (k : Nat) (s1 s2 : Int), k ≤ X.length ∧ s64 = .int .i64 k ∧ s9 = .int .i64 s1 ∧ s10 = .int .u64 s2 ∧ Hid (G k = (s1, s2)) ∧ Hid (Below w4.heap.size w4 wr)) (fun s64 _ _ _ => X.length - (intOf s64).toNat)
        case atStart => exact ⟨0, -1, wd, Nat.zero_le _, rfl, rfl, rfl, HG0, Below.refl _ _⟩
        case round =>
          obtain ⟨k, s1, s2, hkn, rfl, rfl, rfl, HG, HBL⟩ := hrel
          clear HG0
          by_cases hlt : k < X.length
          · obtain ⟨a, ha⟩ : ∃ a, X[k]? = some a := ⟨_, List.getElem?_eq_getElem hlt⟩
            have hma := HOF.out a (List.mem_of_getElem? ha)
            have hst := HST.out k a ha
            rw [HG.out] at hst
            obtain ⟨ga, capa, hva, hba, hla⟩ := World.ownsRow.form HOA.out (by omega)
            have hAa : Aa = some ⟨ga, 0, none⟩ := by injection hva
            subst hAa
            obtain ⟨c0, c1, c2, c3, c4⟩ := HOA.out.at_ ha
            have hce : ∀ (j : Nat) v, w4.cell? ⟨ga, j, none⟩ = some v → wr.cell? ⟨ga, j, none⟩ = some v := fun j v hv => (HBL.out.cell (p := ⟨ga, j, none⟩) hla).trans hv
            replace c0 := hce _ _ c0
            replace c2 := hce _ _ c2
            replace c3 := hce _ _ c3
            have HW5 := Lib.hid (HW4.out.below (HBL.out.mono (by omega)))
            obtain ⟨p, hp⟩ : ∃ p : Nat, ofP l bl a.ev = (p : Int) := ⟨(ofP l bl a.ev).toNat, by have := hma.2; omega⟩
            have hpl := (ofP_lt hma.2).1
            have hpN : p < (pts l bl).length := by rw [hp] at hpl; simpa using hpl
            obtain ⟨A3, q3, hc3, hr3⟩ := HW5.out.of
            obtain ⟨g3, hA3, hz3, hofa⟩ := hr3 a.ev hma.1
            obtain ⟨g3', hA3', hz3', hofi⟩ := hr3 i hi
            subst hA3
            injection hA3' with hA3'
            injection hA3' with hA3'
            subst hA3'
            rw [hp] at hofa
            rw [HPE.out] at hofi
            obtain ⟨A4, q5, gr, hc4, hr4⟩ := HW5.out.ah
            obtain ⟨⟨g4, hA4, hz4, hrow⟩, hz5, hcl⟩ := hr4 p hpN
            subst hA4
            have hap := hcl pe hpeN
            obtain ⟨eb', eo', ev1, hA1, hz1, he1, hz2, hz6, hz7, f2, hz8, hz9, hz10⟩ := HC4.out.at_ HBL.out hi
            clear hz1 hz2 hz6 hz7 hz8 hz9 hz10
            injection hA1 with hA1
            injection hA1 with hA1 hA2
            subst hA1 hA2
            have he1' := he1.out
            rw [HE.out] at he1'
            obtain rfl := Option.some.inj he1'
            obtain ⟨eb', eo', ev2, hA1, hz1, he2, hwd2, hz2, hz6, hz7, f3, hz8, hz9⟩ := HC4.out.at_ HBL.out hma.1
            clear hz1 hz2 hz6 hz7 hz8 hz9
            injection hA1 with hA1
            injection hA1 with hA1 hA2
            subst hA1 hA2
            obtain ⟨xw, hxw⟩ : ∃ y, y = ev2.word := ⟨_, rfl⟩
            rw [← hxw] at f3
            have HXW : Hid ((l.getD a.ev ev0).word = xw) := by
              show _ = xw
              rw [hxw]
              simp [List.getD, he2.out]
            simp only at f2
            obtain ⟨u, hu⟩ : ∃ u, u = aheadP l bl lk p pe := ⟨_, rfl⟩
            rw [← hu] at hap
            have HST2 : Hid (G (k + 1) = if a.wr = true ∧ a.ad = ad ∧ u = true then (if s1 < 0 ∨ s1 = (p : Int) ∨ aheadP l bl lk s1.toNat p = true then ((p : Int), xw) else (s1, s2)) else (s1, s2)) := by
              show G (k + 1) = _
              rw [hst]
              unfold tellS
              rw [hp, HPE.out, HGD.out, HXW.out, Int.toNat_natCast, Int.toNat_natCast, ← hu]
            have HS1 : Hid (s1 = -1 ∨ ∃ q : Nat, s1 = (q : Int) ∧ q < (pts l bl).length) := by
              have := HBS.out k hkn
              rw [HG.out] at this
              exact this
            have HR4 := Lib.hid hr4
            have j1 : (0 : Int) ≤ (k : Int) := by omega
            have j2 : (k : Int) < (X.length : Int) := by omega
            have j3 : (0 : Int) ≤ (a.ev : Int) := by omega
            have j4 : (a.ev : Int) < (l.length : Int) := by have := hma.1; omega
            have j5 : (0 : Int) ≤ (p : Int) := by omega
            have j6 : (p : Int) < ((pts l bl).length : Int) := by omega
            have j7 : (0 : Int) ≤ (pe : Int) := by omega
            have j8 : (pe : Int) < ((pts l bl).length : Int) := by omega
            clear ha hma hst hva hce hp hpl hr3 hz3 hz3' hr4 hz4 hz5 hcl he1 he1' he2 hwd2 hxw hu HG HST c1 c4
            go_wp2
            go_quiet (fail)
            have hcs : (∀ q : Addr, (wr.drewN nq).cell? q = wr.cell? q) := fun _ => rfl
            rw [← hcs] at c0 c2 c3 hc3 hofi hc4 hrow hap f2 f3
            have HR5 : Hid (∀ q, q < (pts l bl).length → ∃ g', some (⟨g4, 0, none⟩ : Addr) = some ⟨g', 0, none⟩ ∧ (wr.drewN nq).cell? ⟨g', q, none⟩ = some (.slice (some ⟨gr q, 0, none⟩) (pts l bl).length (pts l bl).length) ∧ ∀ z, z < (pts l bl).length → (wr.drewN nq).cell? ⟨gr q, z, none⟩ = some (.bool (aheadP l bl lk q z))) := fun q hq => by
              obtain ⟨⟨g', h1, _, h3⟩, _, h5⟩ := HR4.out q hq
              exact ⟨g', h1, h3, h5⟩
            have HB6 := Lib.hid (bdrewN HBL.out nq)
            clear hcs HBL HR4 hofa HW5
            generalize wr.drewN nq = w6 at *
            rcases Bool.eq_false_or_eq_true a.wr with wa | wa
            · rw [wa] at c3
              have HWA := Lib.hid wa
              clear wa
              by_cases had : a.ad = ad
              · have HAD := Lib.hid had
                rw [had] at c2
                clear had
                rcases Bool.eq_false_or_eq_true u with hu | hu
                · subst hu
                  go_wp2
                  go_quiet (fail)
                  have HB7 := Lib.hid (bdrewN HB6.out nq)
                  have hcs : (∀ q : Addr, (w6.drewN nq).cell? q = w6.cell? q) := fun _ => rfl
                  have HR6 : Hid (∀ q, q < (pts l bl).length → ∃ g', some (⟨g4, 0, none⟩ : Addr) = some ⟨g', 0, none⟩ ∧ (w6.drewN nq).cell? ⟨g', q, none⟩ = some (.slice (some ⟨gr q, 0, none⟩) (pts l bl).length (pts l bl).length) ∧ ∀ z, z < (pts l bl).length → (w6.drewN nq).cell? ⟨gr q, z, none⟩ = some (.bool (aheadP l bl lk q z))) := HR5
                  rw [← hcs] at c0 hc4 f3
                  clear hcs HB6 hofi f2 c2 c3 hrow hap HR5 hc3
                  generalize w6.drewN nq = w7 at *
                  rcases HS1.out with h1 | ⟨q, h1, hqN⟩
                  · have HG9 : Hid (G (k + 1) = ((p : Int), xw)) := by
                      show _ = _
                      rw [HST2.out, if_pos ⟨HWA.out, HAD.out, by trivial⟩, if_pos (.inl (by omega))]
                    subst h1
                    go_wp2
                    go_roundw
                    case rel => exact ⟨k + 1, p, xw, hlt, by go_num, rfl, rfl, HG9, HB7⟩
                    case measure => simp [intOf]; omega
                  · subst h1
                    have k3 : ¬ (q : Int) < 0 := by omega
                    by_cases hqp : q = p
                    · have HG9 : Hid (G (k + 1) = ((p : Int), xw)) := by
                        show _ = _
                        rw [HST2.out, if_pos ⟨HWA.out, HAD.out, by trivial⟩, if_pos (.inr (.inl (by omega)))]
                      have k2 : ((p : Int) == (q : Int)) = true := by simp; omega
                      clear hqp
                      go_wp2
                      go_roundw
                      case rel => exact ⟨k + 1, p, xw, hlt, by go_num, rfl, rfl, HG9, HB7⟩
                      case measure => simp [intOf]; omega
                    · have k2 : ((p : Int) == (q : Int)) = false := by simp; omega
                      have hqp2 : ¬ (q : Int) = (p : Int) := by omega
                      obtain ⟨g4', hA4, hrow, hcl⟩ := HR6.out q hqN
                      injection hA4 with hA4
                      injection hA4 with hA4
                      subst hA4
                      have hap := hcl p hpN
                      obtain ⟨v, hv⟩ : ∃ v, v = aheadP l bl lk q p := ⟨_, rfl⟩
                      rw [← hv] at hap
                      have HG8 : Hid (G (k + 1) = if v = true then ((p : Int), xw) else ((q : Int), s2)) := by
                        show _ = _
                        rw [HST2.out, if_pos ⟨HWA.out, HAD.out, by trivial⟩, Int.toNat_natCast, ← hv]
                        by_cases hv1 : v = true
                        · rw [if_pos (.inr (.inr hv1)), if_pos hv1]
                        · rw [if_neg hv1, if_neg]
                          rintro (h | h | h)
                          · exact k3 h
                          · exact hqp2 h
                          · exact hv1 h
                      have j9 : (0 : Int) ≤ (q : Int) := by omega
                      have j10 : (q : Int) < ((pts l bl).length : Int) := by omega
                      clear hv hqp hqp2 HST2 hcl HR6
                      rcases Bool.eq_false_or_eq_true v with hv | hv
                      · subst hv
                        have HG9 : Hid (G (k + 1) = ((p : Int), xw)) := by
                          show _ = _
                          rw [HG8.out, if_pos rfl]
                        go_wp2
                        go_roundw
                        case rel => exact ⟨k + 1, p, xw, hlt, by go_num, rfl, rfl, HG9, HB7⟩
                        case measure => simp [intOf]; omega
                      · subst hv
                        have HG9 : Hid (G (k + 1) = ((q : Int), s2)) := by
                          show _ = _
                          rw [HG8.out, if_neg (by decide)]
                        go_wp2
                        go_roundw
                        case rel => exact ⟨k + 1, q, s2, hlt, by go_num, rfl, rfl, HG9, HB7⟩
                        case measure => simp [intOf]; omega
                · subst hu
                  have HG9 : Hid (G (k + 1) = (s1, s2)) := by
                    show _ = _
                    rw [HST2.out, if_neg (fun h => by cases h.2.2)]
                  go_wp2
                  go_quiet (fail)
                  have HB9 := Lib.hid (bdrewN HB6.out nq)
                  clear c0 c2 c3 hc3 hofi f2 f3 hc4 hrow hap
                  go_wp2
                  go_roundw
                  case rel => exact ⟨k + 1, s1, s2, hlt, by go_num, rfl, rfl, HG9, HB9⟩
                  case measure => simp [intOf]; omega
              · have k1 : (a.ad != ad) = true := by simpa using had
                have HG9 : Hid (G (k + 1) = (s1, s2)) := by
                  show _ = _
                  rw [HST2.out, if_neg (fun h => had h.2.1)]
                clear had
                go_wp2
                go_quiet (fail)
                have HB9 := Lib.hid (bdrewN HB6.out nq)
                clear c0 c2 c3 hc3 hofi f2 f3 hc4 hrow hap
                go_wp2
                go_roundw
                case rel => exact ⟨k + 1, s1, s2, hlt, by go_num, rfl, rfl, HG9, HB9⟩
                case measure => simp [intOf]; omega
            · rw [wa] at c3
              have HG9 : Hid (G (k + 1) = (s1, s2)) := by
                show _ = _
                rw [HST2.out, if_neg (fun h => by rw [wa] at h; cases h.1)]
              clear wa
              go_wp2
              go_quiet (fail)
              have HB9 := Lib.hid (bdrewN HB6.out nq)
              clear c0 c2 c3 hc3 hofi f2 f3 hc4 hrow hap
              go_wp2
              go_roundw
              case rel => exact ⟨k + 1, s1, s2, hlt, by go_num, rfl, rfl, HG9, HB9⟩
              case measure => simp [intOf]; omega
          · have hk0 : k = X.length := by omega
            have hgk := HG.out
            rw [hk0] at hgk
            have HGK := Lib.hid hgk
            have k4 : ¬ (k : Int) < (X.length : Int) := by omega
            have HBF := Lib.hid (HB4.out.trans (HBL.out.mono (by have := HB4.out.size; omega)))
            clear hk0 hgk
            go_wp2
            go_ret2
            exact ⟨by rw [HF.out, HGK.out]; rfl, HBF.out⟩
    · have k1 : (kd != 10) = true := by simpa using hk10
      have HF : Hid (V = (0, false)) := by
        show V = _
        rw [HV.out, HTV.out, if_neg]
        rintro ⟨_, h⟩
        rw [HGD.out] at h
        exact hk10 h
      rw [hr0]
      clear hk10 hr0 HC3
      go_wp2
      go_ret2
      exact ⟨by rw [HF.out]; rfl, HB3.out⟩
  · have HF : Hid (V = (0, false)) := by
      show V = _
      rw [HV.out, HTV.out, if_neg (fun h => hr0 h.1)]
    generalize hn : (raL l bl lk).length = n at *
    have k3 : (0 : Int) < (n : Int) := by omega
    clear hn hr0
    go_wp2
    go_ret2
    exact ⟨by rw [HF.out]; rfl, HB3.out⟩
end Go.Proofs.Ytjifpjfinffamaa
end
section
namespace Go.Proofs.Ytjifpjfinffamaa
open Go.RowKit
set_option linter.unusedSimpArgs false in
set_option maxRecDepth 100000 in
set_option maxHeartbeats 3200000 in
theorem refTold_any (hi0 gW : Nat) (l : List Ev) (bl : List Bl) (lk : List Nat) (A : Option Addr) (cap : Nat) (Aw : Option Addr) (cw : Nat) (ws : List Int) (i : Int) (w : World) (h : DR w hi0 gW l bl lk) (hB : HBk l bl lk) (hhi : hi0 ≤ w.heap.size) (hc : EvR w w.heap.size A l) (hl : l.length ≤ 1000) (hw : RK .u64 w w.heap.size Aw ws) (hwl : ws.length ≤ 1152921504606846976) :
    Calls Try.prog 56 #[.pointer (some ⟨gW, 0, none⟩), .slice A l.length cap, .slice Aw ws.length cw, .int .i64 i] w fun e w' => e = .returned (.tuple #[.int .u64 (toldV l bl lk ws i).1, .bool (toldV l bl lk ws i).2]) ∧ Below w.heap.size w w' := by
  by_cases hin : 0 ≤ i ∧ i < (l.length : Int)
  · obtain ⟨n, rfl⟩ := Int.eq_ofNat_of_zero_le hin.1
    exact refTold_good hi0 gW l bl lk A cap Aw cw ws n w h hB hhi hc hl hw hwl (by omega)
  · have HV : Hid (toldV l bl lk ws i = (0, false)) := by
      show toldV _ _ _ _ _ = _
      unfold toldV
      rw [if_neg]
      rintro ⟨⟨_, h1, h2⟩, _⟩
      exact hin ⟨h1, h2⟩
    have HRC := Lib.hid (refRac_any hi0 gW l bl lk A cap w h hB hhi hc hl)
    obtain ⟨V, hV⟩ : ∃ V, V = toldV l bl lk ws i := ⟨_, rfl⟩
    rw [← hV]
    rw [← hV] at HV
    generalize hn : (raL l bl lk).length = n at *
    clear hV h hB hc hw hwl hhi hn
    by_cases h0 : i < 0
    · have t1 : decide (i < 0) = true := by simp; omega
      clear hin
      go_enter Try.func56, Try.ntmps56
      go_wp2_with (go_at_call 51; refine halt_ ?_)
      refine Halt_.go ?_
      refine HRC.out.mono ?_
      rintro e w3 ⟨Ar, cr, rfl, hz9, hb3⟩
      have HB3 := Lib.hid hb3
      clear hz9 hb3 HRC
      by_cases hr : n = 0
      · have k3 : ¬ (0 : Int) < (n : Int) := by omega
        clear hr
        go_wp2
        go_ret2
        exact ⟨by rw [HV.out]; rfl, HB3.out⟩
      · have k3 : (0 : Int) < (n : Int) := by omega
        clear hr
        go_wp2
        go_ret2
        exact ⟨by rw [HV.out]; rfl, HB3.out⟩
    · obtain ⟨m, rfl⟩ := Int.eq_ofNat_of_zero_le (show 0 ≤ i by omega)
      have t1 : decide ((m : Int) < 0) = false := by simp
      have t2 : decide (l.length ≤ m) = true := by simp; omega
      clear hin h0
      go_enter Try.func56, Try.ntmps56
      go_wp2_with (go_at_call 51; refine halt_ ?_)
      refine Halt_.go ?_
      refine HRC.out.mono ?_
      rintro e w3 ⟨Ar, cr, rfl, hz9, hb3⟩
      have HB3 := Lib.hid hb3
      clear hz9 hb3 HRC
      by_cases hr : n = 0
      · have k3 : ¬ (0 : Int) < (n : Int) := by omega
        clear hr
        go_wp2
        go_ret2
        exact ⟨by rw [HV.out]; rfl, HB3.out⟩
      · have k3 : (0 : Int) < (n : Int) := by omega
        clear hr
        go_wp2
        go_ret2
        exact ⟨by rw [HV.out]; rfl, HB3.out⟩
end Go.Proofs.Ytjifpjfinffamaa
end
section
namespace Go.Proofs.Ytjifpjfinffamaa
open Go.RowKit
theorem sameWords_any (A B : Option Addr) (c d : Nat) (l : List Int) (w : World) (hx : RK .u64 w w.heap.size A l) (hy : RK .u64 w w.heap.size B l) (hl : l.length ≤ 140737488351232) :
    Calls Try.prog 57 #[.slice A l.length c, .slice B l.length d] w fun e w' => e = .returned (.bool true) ∧ ∃ m, w' = w.drewN m := by
  have hne : ((l.length : Int) != l.length) = false := by simp
  go_enter Try.func57, Try.ntmps57
  go_wp2
  go_loopw [5] (fun i wr => ∃ k : Nat, k ≤ l.length ∧ i = .int .i64 k ∧ ∃ m, wr = w.drewN m) (fun i _ => l.length - (intOf i).toNat)
  case atStart => exact ⟨0, Nat.zero_le _, rfl, 0, rfl⟩
  case round =>
    obtain ⟨k, hk, rfl, m, rfl⟩ := hrel
    by_cases hlt : k < l.length
    · obtain ⟨b, off, x, rfl, hb, he, h1⟩ := hx.at_ (Below.refl _ _) hlt
      obtain ⟨b2, off2, y, rfl, hb2, he2, h4⟩ := hy.at_ (Below.refl _ _) hlt
      have hee : y = x := by
        have := he.out.symm.trans he2.out
        simpa using this.symm
      subst hee
      have i1 : (0 : Int) ≤ (k : Int) := by omega
      have i2 : (k : Int) < (l.length : Int) := by omega
      have i3 : (y != y) = false := by simp
      clear hx hy hne he he2
      go_wp2
      go_quiet (fail)
      go_wp2
      go_roundw
      case rel => exact ⟨k + 1, by omega, by go_num, _, rfl⟩
      case measure => simp [intOf]; omega
    · go_wp2
      go_ret
      exact ⟨rfl, m, rfl⟩
end Go.Proofs.Ytjifpjfinffamaa
end
section
namespace Go.Proofs.Ytjifpjfinffamaa
open Go.ChangeShapes Go.WideShapes Go.ChangeAt Go.RowKit
theorem cells85 : Try.prog.cellsOf 85 = 2 := by kernel_rfl
theorem bytes40 : Try.prog.bytesOf 40 = 8 := by kernel_rfl
def RP2 (w : World) (B : Nat) (A : Option Addr) (l : List (Int × Int)) : Prop :=
  0 < l.length → ∃ b off, A = some ⟨b, off, none⟩ ∧ b < B ∧ ∀ i (h : i < l.length), w.cell? ⟨b, off + i * 2, none⟩ = some (.int .i64 l[i].1) ∧ w.cell? ⟨b, off + i * 2 + 1, none⟩ = some (.int .i64 l[i].2)
section
variable {H : Type} {enc : TypeId × Value → H} {w : World} {base : Nat} {r : Reach}
set_option maxRecDepth 100000 in
theorem open_words {v : Value} {d : DataW H} {p : List MemPlace} (hv : Value.okWide Try.prog w r base 86 v) (h : DataW.Trod enc Try.prog w 0 (fun _ => true) true 86 v d p) :
    ∃ (A : Option Addr) (c : Nat) (l : List Int), v = .slice A l.length c ∧ RK .u64 w w.heap.size A l ∧ (d = .nil ∧ l = [] ∨ ∃ es sp, d = .slice es sp ∧ es.length = l.length) ∧ ∀ x ∈ p, x.block < w.heap.size := by
  obtain ⟨A, len, c, rfl⟩ := okWide_slice Try.underlying86 hv
  obtain ⟨m, hm⟩ := h
  have hlt := DataW.trod_lt m _ _ _ hm
  rcases open_ints Try.underlying86 Try.underlying40 cells40 hm with ⟨hcs, hx⟩ | ⟨a, len', c', zs, hcs, _, hl, _, hz, hx, hcell, _⟩
  · simp [Value.cells] at hcs
    obtain ⟨rfl, rfl, rfl⟩ := hcs
    simp only [Prod.mk.injEq] at hx
    exact ⟨none, 0, [], rfl, fun h => absurd h (by simp), .inl ⟨hx.1, rfl⟩, hlt⟩
  · simp [Value.cells] at hcs
    obtain ⟨rfl, rfl, rfl⟩ := hcs
    simp only [Prod.mk.injEq] at hx
    have hz' : zs.length = c := by simpa using hz
    have hlen : (zs.take len).length = len := by simp; omega
    refine ⟨some a, c, zs.take len, by rw [hlen], ?_, .inr ⟨_, _, hx.1, by simp [lits]⟩, hlt⟩
    intro hpos
    obtain ⟨b, off, spot⟩ := a
    have hs : spot = none := by
      have := hcell 0 (by omega)
      simpa [Addr.add] using World.cell?_spot this
    subst hs
    refine ⟨b, off, rfl, ?_, fun i hi => ?_⟩
    · have := hcell 0 (by omega)
      exact World.block_lt_of_cell? w _ this
    · have hi' : i < zs.length := by omega
      have := hcell i hi'
      rw [Addr.add_lit] at this
      simpa [List.getElem_take, hi'] using this
set_option maxRecDepth 100000 in
theorem open_races {v : Value} {d : DataW H} {p : List MemPlace} (hv : Value.okWide Try.prog w r base 73 v) (h : DataW.Trod enc Try.prog w 0 (fun _ => true) true 73 v d p) :
    ∃ (A : Option Addr) (c : Nat) (l : List (Int × Int)), v = .slice A l.length c ∧ RP2 w w.heap.size A l ∧ (d = .nil ∧ l = [] ∨ ∃ es sp, d = .slice es sp ∧ es.length = l.length) ∧ ∀ x ∈ p, x.block < w.heap.size := by
  obtain ⟨A, len, c, rfl⟩ := okWide_slice Try.underlying73 hv
  obtain ⟨m, hm⟩ := h
  have hlt := DataW.trod_lt m _ _ _ hm
  rcases Go.Deep.open_slice Try.underlying73 hm with ⟨hcs, hx⟩ | ⟨a, len', c', m', n', D, Pl, hcs, _, hl, _, hmm, hx, hi⟩
  · simp [Value.cells] at hcs
    obtain ⟨rfl, rfl, rfl⟩ := hcs
    simp only [Prod.mk.injEq] at hx
    exact ⟨none, 0, [], rfl, fun h => absurd h (by simp), .inl ⟨hx.1, rfl⟩, hlt⟩
  · simp [Value.cells] at hcs
    obtain ⟨rfl, rfl, rfl⟩ := hcs
    simp only [Prod.mk.injEq] at hx
    have hrow : ∀ i, i < len → ∃ x : Int × Int, w.cell? (a.add (i * 2)) = some (.int .i64 x.1) ∧ w.cell? (a.add (i * 2 + 1)) = some (.int .i64 x.2) := by
      intro i hil
      obtain ⟨cs, hc, ht⟩ := hi i (by simp at hmm; omega)
      rw [cells85] at hc
      obtain ⟨xs, n, _, _, _, hlen, hf⟩ := DataW.trod_struct Try.underlying85 ht
      obtain ⟨_, hlen2, hat⟩ := World.cells?_some hc
      match cs, hlen2, xs, hlen with
      | [c0, c1], _, [y0, y1], _ =>
        have h0 := hf 0 _ rfl
        have h1 := hf 1 _ rfl
        obtain ⟨x0, e0, _, _⟩ := DataW.trod_int Try.underlying3 (show DataW.trod enc Try.prog w 0 (fun _ => true) true n 3 (([c0, c1].drop 0).take (Try.prog.cellsOf 3)) = some y0 from h0)
        obtain ⟨x1, e1, _, _⟩ := DataW.trod_int Try.underlying3 (show DataW.trod enc Try.prog w 0 (fun _ => true) true n 3 (([c0, c1].drop 1).take (Try.prog.cellsOf 3)) = some y1 from h1)
        simp [cells3] at e0 e1
        subst e0 e1
        have q0 := hat 0 (by omega)
        have q1 := hat 1 (by omega)
        rw [Go.Deep.add_add] at q0 q1
        exact ⟨(x0, x1), by simpa using q0, by simpa using q1⟩
    have hF : ∃ F : Nat → Int × Int, ∀ i, i < len → w.cell? (a.add (i * 2)) = some (.int .i64 (F i).1) ∧ w.cell? (a.add (i * 2 + 1)) = some (.int .i64 (F i).2) := by
      refine ⟨fun i => if h : i < len then (hrow i h).choose else (0, 0), fun i hil => ?_⟩
      simp only [hil, dite_true]
      exact (hrow i hil).choose_spec
    obtain ⟨F, hF⟩ := hF
    refine ⟨some a, c, (List.range len).map F, by simp, fun hpos => ?_, .inr ⟨_, _, hx.1, by simp⟩, hlt⟩
    obtain ⟨b, off, spot⟩ := a
    have hs : spot = none := by
      have := (hF 0 (by simpa using hpos)).1
      simpa [Addr.add] using World.cell?_spot this
    subst hs
    refine ⟨b, off, rfl, ?_, fun i hi => ?_⟩
    · have := (hF 0 (by simpa using hpos)).1
      exact World.block_lt_of_cell? w _ this
    · have := hF i (by simpa using hi)
      simp only [Addr.add_lit] at this
      simpa [Nat.add_assoc] using this
theorem sized_words {ts : List TypeId} {ds : List (DataW H)} (h : (DataW.weightsEach Try.prog ts ds).all (· ≤ reachBytes) = true) {j : Nat} {d : DataW H} {l : List Int} (ht : ts[j]? = some 86) (hd : ds[j]? = some d)
    (hq : d = .nil ∧ l = [] ∨ ∃ es sp, d = .slice es sp ∧ es.length = l.length) : l.length * 8 ≤ 140737488351232 := by
  rcases hq with ⟨_, rfl⟩ | ⟨es, sp, rfl, he⟩
  · simp
  · have := sized_slice h ht hd Try.underlying86
    rw [bytes40, he] at this
    simp only [reachBytes] at this
    omega
end
end Go.Proofs.Ytjifpjfinffamaa
end
section
namespace Go.Proofs.Ytjifpjfinffamaa
open Go.RowKit
def LentU (w : World) (base g cap : Nat) (ws : List Int) : Prop := base ≤ g ∧ g < w.heap.size ∧ ws.length + 1 ≤ cap ∧ w.ownsRow base 40 1 (.slice (some ⟨g, 0, none⟩) (ws.length + 1) cap) (ws.length + 1) (ws.map (Value.int .u64) ++ [.int .u64 77])
theorem LentU.below {w w' : World} {base g cap : Nat} {ws : List Int} (h : LentU w base g cap ws) (hb : Below w.heap.size w w') : LentU w' base g cap ws :=
  ⟨h.1, Nat.lt_of_lt_of_le h.2.1 hb.size, h.2.2.1, own_keep h.2.2.2 fun k hk => hb.block k (World.ownsRow.lt h.2.2.2 k hk).2⟩
theorem LentU.cell {w : World} {base g cap : Nat} {ws : List Int} (h : LentU w base g cap ws) {j : Nat} {u : Value} (hu : (ws.map (Value.int .u64) ++ [.int .u64 77])[j]? = some u) : w.cell? ⟨g, j, none⟩ = some u := by
  have := h.2.2.2.cells (g := g) rfl j u hu
  rwa [Addr.add_lit, Nat.zero_add] at this
theorem LentU.reads {w : World} {base g cap : Nat} {ws : List Int} (h : LentU w base g cap ws) : RK .u64 w w.heap.size (some ⟨g, 0, none⟩) ws := by
  intro hp
  refine ⟨g, 0, rfl, h.2.1, fun i hi => ?_⟩
  rw [Nat.zero_add]
  exact h.cell (by rw [List.getElem?_append_left (by simpa using hi)]; simp [hi])
theorem LentU.mark {w : World} {base g cap : Nat} {ws : List Int} (h : LentU w base g cap ws) : w.cell? ⟨g, ws.length, none⟩ = some (.int .u64 77) :=
  h.cell (by rw [List.getElem?_append_right (by simp)]; simp)
set_option maxRecDepth 100000 in
set_option maxHeartbeats 3200000 in
theorem law10_long (A : Option Addr) (cap : Nat) (l : List Ev) (Aw : Option Addr) (cw : Nat) (ws : List Int) (Ap : Option Addr) (cp : Nat) (ps : List (Int × Int)) (w : World) (hlg : 300 < l.length ∨ 40 < ps.length) :
    Calls Try.prog 10 #[.slice A l.length cap, .slice Aw ws.length cw, .slice Ap ps.length cp] w fun e w' => e = .returned (.bool true) ∧ Below w.heap.size w w' := by
  by_cases h1 : 300 < l.length
  · have d1 : (300 : Int) < (l.length : Int) := by omega
    clear hlg h1
    go_enter Try.func10, Try.ntmps10
    go_wp2_with (go_at_call 43; refine halt_ ?_)
    refine Halt_.go ?_
    refine (known18_any _).mono ?_
    rintro e w1 ⟨rfl, hb⟩
    have HB := Lib.hid hb
    clear hb
    go_wp2
    go_ret
    exact ⟨rfl, HB.out⟩
  · have d1 : ¬ (300 : Int) < (l.length : Int) := by omega
    have d2 : (40 : Int) < (ps.length : Int) := by omega
    clear hlg h1
    go_enter Try.func10, Try.ntmps10
    go_wp2_with (go_at_call 43; refine halt_ ?_)
    refine Halt_.go ?_
    refine (known18_any _).mono ?_
    rintro e w1 ⟨rfl, hb⟩
    have HB := Lib.hid hb
    clear hb
    go_wp2
    go_ret
    exact ⟨rfl, HB.out⟩
end Go.Proofs.Ytjifpjfinffamaa
end
section
namespace Go.Proofs.Ytjifpjfinffamaa
open Go.RowKit
theorem info40' : (Try.prog.info? 40).map (fun i => (i.zero, i.size, i.bytes)) = some (some (.int .u64 0), 1, 8) := by kernel_rfl
set_option linter.unusedSimpArgs false in
set_option maxRecDepth 100000 in
set_option maxHeartbeats 12800000 in
theorem law10_bad (A : Option Addr) (cap : Nat) (l : List Ev) (Aw : Option Addr) (cw : Nat) (ws : List Int) (Ap : Option Addr) (cp : Nat) (ps : List (Int × Int)) (w : World) (hlg : ¬ 300 < l.length) (hpg : ¬ 40 < ps.length) (hk : (chk ss0 l 0).2 ≠ 0) (hc : EvR w w.heap.size A l) (hw : RK .u64 w w.heap.size Aw ws) (hp : RP2 w w.heap.size Ap ps) (hwl : ws.length * 8 ≤ 140737488351232) :
    Calls Try.prog 10 #[.slice A l.length cap, .slice Aw ws.length cw, .slice Ap ps.length cp] w fun e w' => e = .returned (.bool true) ∧ Below w.heap.size w w' := by
  have d1 : ¬ (300 : Int) < (l.length : Int) := by omega
  have d2 : ¬ (40 : Int) < (ps.length : Int) := by omega
  have hll : l.length ≤ 1099511627776 := by omega
  have hl1 : l.length ≤ 1000 := by omega
  have hwl2 : ws.length ≤ 17592186043904 := by omega
  have HC := Lib.hid hc
  have HWD := Lib.hid hw
  have HPS := Lib.hid hp
  have HWR := Lib.hid (fun W hc => wrong15_any A cap l W hll hc)
  clear hlg hpg hc hw hp hwl
  obtain ⟨y, hy⟩ : ∃ y, y = (chk ss0 l 0).2 := ⟨_, rfl⟩
  rw [← hy] at HWR hk
  have HY := Lib.hid hy
  have e1 : (y == 0) = false := by simpa using hk
  clear hy hk
  go_enter Try.func10, Try.ntmps10
  go_wp2_with (go_at_call 44; refine halt_ ?_)
  refine Halt_.go ?_
  refine (lent18_any A cap l w hll HC.out).mono ?_
  rintro e w1 ⟨g, c1, rfl, hL, hb⟩
  have HL := Lib.hid hL
  have HB := Lib.hid hb
  have hs1 := hb.size
  have hrd := HWD.out.below hb
  clear hL hb
  have hm1 : ∀ u ∈ [Value.int .u64 77], u.oneCell' = true := by simp [Value.oneCell']
  have hw1 : ∀ u ∈ ws.map (Value.int .u64), u.oneCell' = true := by
    intro u hu
    obtain ⟨x, _, rfl⟩ := List.mem_map.1 hu
    rfl
  go_wp2_with (at_builtin; refine halt_ ?_)
  refine Halt_.go ?_
  refine wl_append_src _ rfl (.const (.slice none 0 0)) (.tmp 32) 86 rfl w1.heap.size 40 _ 1 8 info40' Try.underlying86 rfl (by decide) _ 0 [] rfl (World.ownsRow_nil w1 w1.heap.size 40 1) Aw ws.length cw (ws.map (Value.int .u64)) rfl (by simp) hrd.none_ hrd.cells hw1 (by omega) (by omega) (Nat.le_refl _) ?_
  intro A1 cw1 w1a hown1 hgrow1 hnil1
  simp only [Nat.zero_add, List.nil_append] at hown1
  have hb1 : Below w1.heap.size w1 w1a := (Below.refl _ _).grown hgrow1 (Nat.le_refl _) (fun k hk => by cases hk)
  go_wp2_with (at_builtin; refine halt_ ?_)
  refine Halt_.go ?_
  refine wl_append_src _ rfl (.tmp 33) (.tmp 34) 86 rfl w1.heap.size 40 _ 1 8 info40' Try.underlying86 rfl (by decide) _ ws.length (ws.map (Value.int .u64)) rfl (hown1.alloc _) _ 1 1 [.int .u64 77] rfl rfl (fun h => by cases h) (cells_of_new (heap_alloc_new _ _)) hm1 (by omega) (by omega) (by have := hb1.size; simp; omega) ?_
  intro A2 cw2 w2 hown2 hgrow2 hnil2
  obtain ⟨gw, capw, hv, hbg, hlt⟩ := hown2.form (by omega)
  cases hv
  have hcap := (own_cap hown2).1
  have hb2 : Below w1.heap.size w1 w2 := (hb1.alloc hb1.size _).grown hgrow2 (by have := hb1.size; simp; omega) (fun k hk => (hown1.lt k hk).1)
  have HLW : Hid (LentU w2 w1.heap.size gw cw2 ws) := ⟨hbg, hlt, hcap, hown2⟩
  have HL2 := Lib.hid (HL.out.below HL.out.2.1 hb2)
  have HB2 := Lib.hid (HB.out.trans (hb2.mono hs1))
  have HC2 := Lib.hid ((HC.out.below HB2.out).more HB2.out.size)
  have hs2 := hb2.size
  have i0 : (ws.length : Int) ≤ (cw2 : Int) := by omega
  have i00 : ws.length ≤ cw2 := by omega
  clear hown1 hgrow1 hnil1 hown2 hgrow2 hnil2 hb1 hb2 hrd hm1 hw1 HL HB hbg hlt hcap
  go_wp2_with (go_at_call 14; refine halt_ ?_)
  refine Halt_.go ?_
  refine (HWR.out w2 HC2.out).mono ?_
  rintro e w3 ⟨rfl, hb⟩
  have HL3 := Lib.hid (HL2.out.below HL2.out.2.1 hb)
  have HLW3 := Lib.hid (HLW.out.below hb)
  have HB3 := Lib.hid (HB2.out.trans (hb.mono HB2.out.size))
  have HC3 := Lib.hid ((HC2.out.below hb).more hb.size)
  have hs3 := hb.size
  clear hb HL2 HLW HB2 HC2 HWR
  have HAB := Lib.hid (fun (a b : Int) (W : World) (h : EvR W W.heap.size (some ⟨g, 0, none⟩) l) => ahead18_any (some ⟨g, 0, none⟩) c1 l a b W hl1 h)
  have HTB := Lib.hid (fun (a : Int) (W : World) (h : EvR W W.heap.size (some ⟨g, 0, none⟩) l) (h2 : RK .u64 W W.heap.size (some ⟨gw, 0, none⟩) ws) => told18_any (some ⟨g, 0, none⟩) c1 l (some ⟨gw, 0, none⟩) cw2 ws a W hl1 h h2 (by omega))
  have hne : Hid (¬ (chk ss0 l 0) = (-1, 0)) := by
    intro h
    have := HY.out
    rw [h] at this
    rw [this] at e1
    cases e1
  go_wp2
  obtain ⟨w4, hw4⟩ : ∃ w4, w4 = w3.alloc (.cells #[.slice none 0 0, .slice none 0 0, .slice none 0 0, .slice none 0 0, .slice none 0 0, .slice none 0 0] 89) := ⟨_, rfl⟩
  have hb4 : Below w3.heap.size w3 w4 := by rw [hw4]; exact (Below.refl _ _).alloc (Nat.le_refl _) _
  rw [← hw4]
  have HS4 : Hid (LentV w4 w.heap.size g c1 l ∧ LentU w4 w1.heap.size gw cw2 ws ∧ Below w.heap.size w w4 ∧ EvR w4 w4.heap.size A l) := ⟨HL3.out.below HL3.out.2.1 hb4, HLW3.out.below hb4, HB3.out.trans (hb4.mono HB3.out.size), (HC3.out.below hb4).more hb4.size⟩
  clear hw4 hb4 HL3 HLW3 HB3 HC3
  go_loopw [11] (fun i wr => ∃ k : Nat, k ≤ ps.length ∧ i = .int .i64 k ∧ Hid (LentV wr w.heap.size g c1 l ∧ LentU wr w1.heap.size gw cw2 ws ∧ Below w.heap.size w wr ∧ EvR wr wr.heap.size A l)) (fun i _ => ps.length - (intOf i).toNat)
  case atStart => exact ⟨0, Nat.zero_le _, rfl, HS4⟩
  case round =>
    clear HS4
    obtain ⟨k, hkn, rfl, HS⟩ := hrel
    by_cases hlt : k < ps.length
    · obtain ⟨bp, op', hAp, hbp, hcp⟩ := HPS.out (by omega)
      obtain ⟨q0, q1⟩ := hcp k hlt
      subst hAp
      replace q0 := (HS.out.2.2.1.cell (p := ⟨bp, op' + k * 2, none⟩) hbp).trans q0
      replace q1 := (HS.out.2.2.1.cell (p := ⟨bp, op' + k * 2 + 1, none⟩) hbp).trans q1
      generalize ps[k] = pr at *
      obtain ⟨a, b⟩ := pr
      simp only at q0 q1
      have j1 : (0 : Int) ≤ (k : Int) := by omega
      have j2 : (k : Int) < (ps.length : Int) := by omega
      clear hcp
      go_wp2
      go_quiet (fail)
      have HS5 : Hid (LentV (wr.drewN nq) w.heap.size g c1 l ∧ LentU (wr.drewN nq) w1.heap.size gw cw2 ws ∧ Below w.heap.size w (wr.drewN nq) ∧ EvR (wr.drewN nq) (wr.drewN nq).heap.size A l) := by
        have hb : Below wr.heap.size wr (wr.drewN nq) := bdrewN (Below.refl _ _) nq
        exact ⟨HS.out.1.below HS.out.1.2.1 hb, HS.out.2.1.below hb, bdrewN HS.out.2.2.1 nq, HS.out.2.2.2⟩
      clear HS q0 q1
      generalize wr.drewN nq = w5 at *
      go_wp2_with (go_at_call 54; refine halt_ ?_)
      refine Halt_.go ?_
      refine (HAB.out a b w5 HS5.out.1.reads).mono ?_
      rintro e w6 ⟨r, rfl, hr, hb⟩
      have hrf : r = false := hr.elim (fun h => h.2) (fun h => absurd h.1 hne.out)
      subst hrf
      have HS6 : Hid (LentV w6 w.heap.size g c1 l ∧ LentU w6 w1.heap.size gw cw2 ws ∧ Below w.heap.size w w6 ∧ EvR w6 w6.heap.size A l) := ⟨HS5.out.1.below HS5.out.1.2.1 hb, HS5.out.2.1.below hb, HS5.out.2.2.1.trans (hb.mono HS5.out.2.2.1.size), (HS5.out.2.2.2.below hb).more hb.size⟩
      clear hr hb HS5
      go_wp2
      go_quiet (fail)
      have HS7 : Hid (LentV (w6.drewN nq) w.heap.size g c1 l ∧ LentU (w6.drewN nq) w1.heap.size gw cw2 ws ∧ Below w.heap.size w (w6.drewN nq) ∧ EvR (w6.drewN nq) (w6.drewN nq).heap.size A l) := by
        have hb : Below w6.heap.size w6 (w6.drewN nq) := bdrewN (Below.refl _ _) nq
        exact ⟨HS6.out.1.below HS6.out.1.2.1 hb, HS6.out.2.1.below hb, bdrewN HS6.out.2.2.1 nq, HS6.out.2.2.2⟩
      clear HS6
      generalize w6.drewN nq = w7 at *
      go_wp2_with (go_at_call 55; refine halt_ ?_)
      refine Halt_.go ?_
      refine (HTB.out a w7 HS7.out.1.reads HS7.out.2.1.reads).mono ?_
      rintro e w8 ⟨V, rfl, hr, hb⟩
      have hrf : V = (0, false) := hr.elim (fun h => h.2) (fun h => absurd h.1 hne.out)
      subst hrf
      have HS8 : Hid (LentV w8 w.heap.size g c1 l ∧ LentU w8 w1.heap.size gw cw2 ws ∧ Below w.heap.size w w8 ∧ EvR w8 w8.heap.size A l) := ⟨HS7.out.1.below HS7.out.1.2.1 hb, HS7.out.2.1.below hb, HS7.out.2.2.1.trans (hb.mono HS7.out.2.2.1.size), (HS7.out.2.2.2.below hb).more hb.size⟩
      clear hr hb HS7
      go_wp2
      go_roundw
      case rel => exact ⟨k + 1, hlt, by go_num, HS8⟩
      case measure => simp [intOf]; omega
    · have k4 : ¬ (k : Int) < (ps.length : Int) := by omega
      clear HAB HTB
      go_wp2_with (go_at_call 48; refine halt_ ?_)
      refine Halt_.go ?_
      refine (kept18_any A g c1 cap _ l wr hll HS.out.1 HS.out.2.2.2).mono ?_
      rintro e w8 ⟨rfl, m, rfl⟩
      have HLW8 : Hid (LentU (wr.drewN m) w1.heap.size gw cw2 ws) := HS.out.2.1.below (bdrewN (Below.refl _ _) m)
      have HB8 := Lib.hid (bdrewN HS.out.2.2.1 m)
      have HWW : Hid (RK .u64 (wr.drewN m) (wr.drewN m).heap.size Aw ws) := (HWD.out.below HB8.out).more HB8.out.size
      clear HS
      generalize wr.drewN m = w8 at *
      go_wp2_with (go_at_call 57; refine halt_ ?_)
      refine Halt_.go ?_
      refine (sameWords_any (some ⟨gw, 0, none⟩) Aw cw2 cw ws w8 HLW8.out.reads HWW.out (by omega)).mono ?_
      rintro e w9 ⟨rfl, m2, rfl⟩
      have HB9 := Lib.hid (bdrewN HB8.out m2)
      have hmk : (w8.drewN m2).cell? ⟨gw, ws.length, none⟩ = some (.int .u64 77) := HLW8.out.mark
      have i01 : (ws.length : Int) + 1 ≤ (cw2 : Int) := by have := HLW8.out.2.2.1; omega
      clear HLW8 HWW HB8
      generalize w8.drewN m2 = w9 at *
      go_wp2_with (go_at_call 43; refine halt_ ?_)
      refine Halt_.go ?_
      refine (known18_any _).mono ?_
      rintro e w10 ⟨rfl, hb⟩
      have HF := Lib.hid (HB9.out.trans (hb.mono HB9.out.size))
      clear hb HB9
      go_wp2
      go_ret
      exact ⟨rfl, HF.out⟩
end Go.Proofs.Ytjifpjfinffamaa
end
