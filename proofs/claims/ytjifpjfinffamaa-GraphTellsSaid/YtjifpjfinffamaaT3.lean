/- Walk: GraphTells, where there is an order. -/
import Derived.Test.YtjifpjfinffamaaWW
import Derived.Test.YtjifpjfinffamaaT1
import Derived.Test.YtjifpjfinffamaaLE
import Derived.Test.YtjifpjfinffamaaA3
import Derived.Test.YtjifpjfinffamaaW7
import Derived.Test.YtjifpjfinffamaaNS
namespace Go.Proofs.Ytjifpjfinffamaa
open Go.RowKit

set_option linter.unusedSimpArgs false in
set_option maxRecDepth 100000 in
set_option maxHeartbeats 20000000 in
theorem tells_order (n : Int) (A : Option Addr) (cap : Nat) (l : List E) (w : World) (hl : l.length * 24 ≤ 140737488351232) (hc : RE w w.heap.size A l) (hw : rightB n l = true) (hq : pick (gap l) l.length = none) :
    Calls Try.prog 7 #[.int .i64 n, .slice A l.length cap] w fun e w' => e = .returned (.bool true) ∧ Below w.heap.size w w' := by
  have HC := Lib.hid hc
  clear hc
  go_enter Try.func7, Try.ntmps7
  go_wp2_with (go_at_call 39; refine halt_ ?_)
  refine Halt_.go ?_
  refine (order_any n A cap l w hl HC.out).mono ?_
  rintro e w1 ⟨A1, k1, xs, er, rfl, hS, hown, hb⟩
  have HS := Lib.hid hS
  have HB1 := Lib.hid hb
  have HC1 := Lib.hid ((HC.out.below hb).more hb.size)
  have HO11 := Lib.hid hown
  clear hS hb hown
  go_wp2_with (go_at_call 24; refine halt_ ?_)
  refine Halt_.go ?_
  refine (round_any n A cap l w1 hl HC1.out).mono ?_
  rintro e w2 ⟨A2, k2, ys, ok, er2, rfl, hS, hown, hb⟩
  have HR := Lib.hid hS
  have HB2 := Lib.hid (HB1.out.trans (hb.mono HB1.out.size))
  have HC2 := Lib.hid ((HC1.out.below hb).more hb.size)
  have HO12 := Lib.hid (HO11.out.below (Nat.le_refl _) hb)
  have HO22 := Lib.hid hown
  clear hS hb hown HC1 HO11 HB1
  obtain ⟨rfl, rfl, rfl, rfl⟩ : er2 = 0 ∧ ok = false ∧ er = 0 ∧ ys = [] := by
    rcases tells HS.out HR.out with ⟨rfl, _⟩ | ⟨_, _, _, _, _, _, h, _⟩ | h
    · rcases HR.out with ⟨h, _⟩ | ⟨_, h, _⟩
      · rw [hw] at h; cases h
      · cases h
    · rw [hq] at h; cases h
    · exact h
  clear hw hq
  obtain ⟨N, rfl, hN, okN, hF, hlen⟩ := HS.out.whole
  subst hlen
  have hr : rightB (xs.length : Int) l = true := by
    rcases HS.out with ⟨_, _, h⟩ | ⟨h, _⟩
    · omega
    · exact h
  have HOK := Lib.hid okN
  have HFU := Lib.hid hF
  have HRB := Lib.hid hr
  clear HR HO22 okN hF hr
  go_wp2_with (first
    | (go_at_call 27; refine (num_any _ _).mono ?_; rintro e wx ⟨rfl, rfl⟩)
    | (go_at_call 32; refine halt_ ?_))
  refine Halt_.go ?_
  refine (keeps_any (xs.length : Int) A1 k1 xs A cap l w2 hl HC2.out HO12.out.reads).mono ?_
  rintro e w3 ⟨b, rfl, hk, hb⟩
  obtain rfl := keeps_true HFU.out rfl HOK.out hk HRB.out
  have HB3 := Lib.hid (HB2.out.trans (hb.mono HB2.out.size))
  have HC3 := Lib.hid ((HC2.out.below hb).more hb.size)
  have HO13 := Lib.hid (HO12.out.below (Nat.le_refl _) hb)
  clear hk hb HC2 HO12 HB2
  have q5 : ((xs.length : Int) != xs.length) = false := by simp
  have HW3 := Lib.hid (Below.refl w3.heap.size w3)
  go_wp2
  go_loopw [13] (fun i wr => ∃ p : Nat, p ≤ xs.length ∧ i = .int .i64 p ∧ Hid (Below w3.heap.size w3 wr)) (fun i _ => xs.length - (intOf i).toNat)
  case atStart => exact ⟨0, Nat.zero_le _, rfl, HW3⟩
  case round =>
    obtain ⟨p, hp, rfl, HB⟩ := hrel
    by_cases hlt : p + 1 < xs.length
    · obtain ⟨yb, yo, x, hA1, hyb, hx, hxc⟩ := HO13.out.reads.at_ HB.out (k := p) (by omega)
      subst hA1
      obtain ⟨yb', yo', y, hA1, _, hy, hyc⟩ := HO13.out.reads.at_ HB.out hlt
      injection hA1 with hA1
      injection hA1 with e1 e2
      subst e1 e2
      have hbe := beside HFU.out hlt
      have ex : xs[p] = x := by
        have := hx.out
        rw [List.getElem?_eq_getElem (by omega)] at this
        injection this
      have ey : xs[p + 1] = y := by
        have := hy.out
        rw [List.getElem?_eq_getElem (by omega)] at this
        injection this
      rw [ex, ey] at hbe
      have HBE := Lib.hid hbe
      have i1 : (0 : Int) ≤ (p : Int) := by omega
      have i2 : (p : Int) < (xs.length : Int) := by omega
      have i3 : (p : Int) + 1 < (xs.length : Int) := by omega
      clear hbe ex ey hx hy
      by_cases hxy : x < y
      · go_wp2
        go_quiet (fail)
        go_wp2
        go_roundw
        case rel => exact ⟨p + 1, by omega, by go_num, Lib.hid (bdrewN HB.out _)⟩
        case measure => simp [intOf]; omega
      · obtain ⟨wo, rfl⟩ : ∃ x, x = wr := ⟨_, rfl⟩
        have HM := Lib.hid (HBE.out.resolve_left hxy)
        have HXY := Lib.hid (fun (w' : World) (h : Below w3.heap.size w3 w') => show w'.cell? ⟨yb, yo + p, none⟩ = some (.int .i64 x) ∧ w'.cell? ⟨yb, yo + (p + 1), none⟩ = some (.int .i64 y) from
          ⟨(h.cell (p := ⟨yb, yo + p, none⟩) hyb).trans ((HB.out.cell (p := ⟨yb, yo + p, none⟩) hyb).symm.trans hxc), (h.cell (p := ⟨yb, yo + (p + 1), none⟩) hyb).trans ((HB.out.cell (p := ⟨yb, yo + (p + 1), none⟩) hyb).symm.trans hyc)⟩)
        clear HBE
        go_wp2
        go_quiet (fail)
        go_wp2
        go_loopw [15, 14] (fun i v wr => ∃ (q : Nat) (tw : Bool), q ≤ l.length ∧ i = .int .i64 q ∧ v = .bool tw ∧ Hid (tw = true ↔ ∃ k, k < q ∧ (eg l k).f = x ∧ (eg l k).t = y) ∧ Hid (Below w3.heap.size w3 wr)) (fun i _ _ => l.length - (intOf i).toNat)
        case atStart => exact ⟨0, false, Nat.zero_le _, rfl, rfl, Lib.hid ⟨fun h => absurd h (by decide), fun ⟨k, hk, _⟩ => absurd hk (Nat.not_lt_zero _)⟩, Lib.hid (bdrewN HB.out _)⟩
        case round =>
          obtain ⟨q, tw, hq, rfl, rfl, HT, HB2⟩ := hrel
          by_cases hql : q < l.length
          · obtain ⟨eb, eo, f, t, kk, hA, heb, he, he1, he2, he3⟩ := HC3.out.at_ HB2.out hql
            subst hA
            have heg : eg l q = ⟨f, t, kk⟩ := by simp [eg, List.getD, he.out]
            have HEG := Lib.hid heg
            obtain ⟨hxc2, hyc2⟩ := HXY.out wr HB2.out
            have i5 : (0 : Int) ≤ (q : Int) := by omega
            have i6 : (q : Int) < (l.length : Int) := by omega
            have HN := Lib.hid (fun (b : Bool) (h : b = true ↔ ((eg l q).f = x ∧ (eg l q).t = y)) => show ((tw || b) = true ↔ ∃ k, k < q + 1 ∧ (eg l k).f = x ∧ (eg l k).t = y) from by
              rw [Bool.or_eq_true, HT.out, h]
              constructor
              · rintro (⟨k, h1, h2⟩ | h2)
                · exact ⟨k, by omega, h2⟩
                · exact ⟨q, Nat.lt_succ_self _, h2⟩
              · rintro ⟨k, h1, h2⟩
                rcases Nat.lt_or_eq_of_le (Nat.lt_succ_iff.1 h1) with h3 | rfl
                · exact .inl ⟨k, h3, h2⟩
                · exact .inr h2)
            clear heg he hxc hyc
            cases tw with
            | true =>
              go_wp2
              go_quiet (fail)
              go_wp2
              go_roundw
              case rel => exact ⟨q + 1, true, hql, by go_num, rfl, Lib.hid ⟨fun _ => by obtain ⟨k, h1, h2⟩ := HT.out.1 (by simp); exact ⟨k, by omega, h2⟩, fun _ => rfl⟩, Lib.hid (bdrewN HB2.out _)⟩
              case measure => simp [intOf]; omega
            | false =>
              by_cases hf : f = x
              · by_cases ht : t = y
                · have e1 : (f == x) = true := by simpa using hf
                  have e2 : (t == y) = true := by simpa using ht
                  have HTW := Lib.hid (show (eg l q).f = x ∧ (eg l q).t = y from ⟨by rw [HEG.out]; exact hf, by rw [HEG.out]; exact ht⟩)
                  clear hf ht
                  go_wp2
                  go_quiet (fail)
                  go_wp2
                  go_roundw
                  case rel => exact ⟨q + 1, true, hql, by go_num, rfl, Lib.hid (HN.out true ⟨fun _ => HTW.out, fun _ => rfl⟩), Lib.hid (bdrewN HB2.out _)⟩
                  case measure => simp [intOf]; omega
                · have e1 : (f == x) = true := by simpa using hf
                  have e2 : (t == y) = false := by simpa using ht
                  have HTW := Lib.hid (show ¬ ((eg l q).f = x ∧ (eg l q).t = y) from fun h => ht (by have := h.2; rw [HEG.out] at this; exact this))
                  clear hf ht
                  go_wp2
                  go_quiet (fail)
                  go_wp2
                  go_roundw
                  case rel => exact ⟨q + 1, false, hql, by go_num, rfl, Lib.hid (HN.out false ⟨fun h => absurd h (by decide), fun h => absurd h HTW.out⟩), Lib.hid (bdrewN HB2.out _)⟩
                  case measure => simp [intOf]; omega
              · have e1 : (f == x) = false := by simpa using hf
                have HTW := Lib.hid (show ¬ ((eg l q).f = x ∧ (eg l q).t = y) from fun h => hf (by have := h.1; rw [HEG.out] at this; exact this))
                clear hf
                go_wp2
                go_quiet (fail)
                go_wp2
                go_roundw
                case rel => exact ⟨q + 1, false, hql, by go_num, rfl, Lib.hid (HN.out false ⟨fun h => absurd h (by decide), fun h => absurd h HTW.out⟩), Lib.hid (bdrewN HB2.out _)⟩
                case measure => simp [intOf]; omega
          · obtain rfl : q = l.length := by omega
            have htw : tw = true := HT.out.2 HM.out
            subst htw
            clear HT HM
            go_wp2
            go_roundw
            case rel => exact ⟨p + 1, by omega, by go_num, HB2⟩
            case measure => simp [intOf]; omega
    · have HB4 := Lib.hid (HB3.out.trans (HB.out.mono HB3.out.size))
      have HC4 := Lib.hid ((HC3.out.below HB.out).more HB.out.size)
      have j1 : ¬ ((p : Int) + 1 < (xs.length : Int)) := by omega
      clear HB HC3 HO13 HB3 hlt
      go_wp2_with (go_at_call 36; refine halt_ ?_)
      refine Halt_.go ?_
      refine (needed_any (xs.length : Int) A cap l wr hl HC4.out).mono ?_
      rintro e w5 ⟨A5, k5, nd, er5, rfl, hS, hown, hb⟩
      have hnd : nd = ndL l l.length := by
        rcases hS.same with ⟨h1, h2, _⟩ | ⟨_, _, _, h2⟩
        · exact absurd (h2.unique HS.out).2 h1
        · exact h2
      have hndl : nd.length ≤ l.length := by rw [hnd]; exact ndL_len l _
      have HND := Lib.hid hnd
      have HB5 := Lib.hid (HB4.out.trans (hb.mono HB4.out.size))
      have HC5 := Lib.hid ((HC4.out.below hb).more hb.size)
      have HO55 := Lib.hid hown
      have HW5 := Lib.hid (Below.refl w5.heap.size w5)
      obtain ⟨b0, hb0⟩ : ∃ b, b = w5.heap.size := ⟨_, rfl⟩
      have HB0 := Lib.hid hb0
      clear hS hnd hb hown HC4 HB4 hb0
      go_wp2
      go_loopw [19, 18] (fun i v wr => ∃ (q : Nat) (Af : Option Addr) (cf : Nat), q ≤ nd.length ∧ i = .int .i64 q ∧ v = .slice Af (fewL l (nd.take q)).length cf ∧ Hid (OwnE wr b0 Af cf (fewL l (nd.take q))) ∧ Hid (Below b0 w5 wr)) (fun i _ _ => nd.length - (intOf i).toNat)
      case atStart => exact ⟨0, none, 0, Nat.zero_le _, rfl, rfl, Lib.hid (OwnE.nil _ _), Lib.hid (by rw [HB0.out]; exact HW5.out)⟩
      case round =>
        obtain ⟨q, Af, cf, hq, rfl, rfl, HO, HB⟩ := hrel
        have HFL := Lib.hid (show (fewL l (nd.take q)).length = q by simp [fewL]; omega)
        by_cases hql : q < nd.length
        · have hbw : Below w5.heap.size w5 wr := HB.out.mono (Nat.le_of_eq HB0.out.symm)
          obtain ⟨yb, yo, x, hA5, hyb, hx, hxc⟩ := HO55.out.reads.at_ hbw hql
          subst hA5
          have hxm : x ∈ ndL l l.length := by rw [← HND.out]; exact List.mem_of_getElem? hx.out
          obtain ⟨j, rfl, hjl, _⟩ := mem_ndL.1 hxm
          obtain ⟨eb, eo, f, t, kk, hA, heb, he, he1, he2, he3⟩ := HC5.out.at_ hbw hjl
          subst hA
          have heg : eg l j = ⟨f, t, kk⟩ := by simp [eg, List.getD, he.out]
          have HFE := Lib.hid (show fewL l (nd.take (q + 1)) = fewL l (nd.take q) ++ [⟨f, t, kk⟩] by
            rw [List.take_add_one, hx.out]
            simp [fewL, heg])
          have i1 : (0 : Int) ≤ (q : Int) := by omega
          have i2 : (q : Int) < (nd.length : Int) := by omega
          have i3 : (0 : Int) ≤ (j : Int) := by omega
          have i4 : (j : Int) < (l.length : Int) := by omega
          have hb0s : b0 ≤ wr.heap.size := by have := hbw.size; have := HB0.out; omega
          clear hxm hx he heg hbw
          go_wp2_with (at_builtin; refine halt_ ?_)
          refine Halt_.go ?_
          have hba := (Below.refl wr.heap.size wr).alloc (Nat.le_refl _) (.cells #[.int .i64 f, .int .i64 t, .int .i64 kk] 69)
          refine wl_pushE _ (by rfl) (.tmp 227) (.tmp 235) 48 (by rfl) info69 Try.underlying48 b0 Af cf (fewL l (nd.take q)) (by rfl) (HO.out.below (Nat.le_refl _) hba) wr.heap.size 1 ⟨f, t, kk⟩ (by rfl) (heap_at _ _ _ rfl) (by rw [HFL.out]; omega) (by simp; omega) ?_
          intro A4 c4 w4 hown4 hkeep
          have hb4 := hkeep _ _ (Nat.le_refl _) (HB.out.trans (hba.mono hb0s))
          rw [← HFE.out] at hown4
          have hlen4 : (fewL l (nd.take q)).length + 1 = (fewL l (nd.take (q + 1))).length := by rw [HFE.out]; simp
          rw [hlen4]
          have HO4 := Lib.hid hown4
          have HB4 := Lib.hid hb4
          clear hkeep hown4 hb4 HO HB hba hlen4 HFL HFE
          go_wp2
          go_roundw
          case rel => exact ⟨q + 1, A4, c4, hql, by go_num, rfl, HO4, HB4⟩
          case measure => simp [intOf]; omega
        · obtain rfl : q = nd.length := by omega
          have HE := Lib.hid (show fewL l (nd.take nd.length) = fewL l (ndL l l.length) by rw [List.take_length, HND.out])
          have hfl := HFL.out
          rw [HE.out] at hfl
          have HOF := Lib.hid (show OwnE wr b0 Af cf (fewL l (ndL l l.length)) by rw [← HE.out]; exact HO.out)
          rw [HE.out]
          have HBF := Lib.hid (HB5.out.trans (HB.out.mono (by rw [HB0.out]; exact HB5.out.size)))
          have HCF := Lib.hid ((HC5.out.below (HB.out.mono (Nat.le_of_eq HB0.out.symm))).more (HB.out.mono (Nat.le_of_eq HB0.out.symm)).size)
          generalize hfe : fewL l (ndL l l.length) = fe at *
          have HFE := Lib.hid hfe
          have HFL2 := Lib.hid hfl
          have HW6 := Lib.hid (Below.refl wr.heap.size wr)
          obtain ⟨wo, rfl⟩ : ∃ x, x = wr := ⟨_, rfl⟩
          clear HE HO HB HC5 HB5 HO55 hfe HB0 HW5 HFL hfl
          go_wp2
          go_loopw [20] (fun i wr => ∃ p : Nat, p ≤ xs.length ∧ p ≤ 40 ∧ i = .int .i64 p ∧ Hid (Below wo.heap.size wo wr)) (fun i _ => xs.length - (intOf i).toNat)
          case atStart => exact ⟨0, Nat.zero_le _, Nat.zero_le _, rfl, HW6⟩
          case round =>
            obtain ⟨m, hm, hm4, rfl, HB⟩ := hrel
            by_cases hmn : m < xs.length ∧ m < 40
            · have i1 : ((m : Int) < (xs.length : Int)) := by omega
              have i2 : ((m : Int) < 40) := by omega
              have HC7 := Lib.hid ((HCF.out.below HB.out).more HB.out.size)
              go_wp2_with (go_at_call 35; refine halt_ ?_)
              refine Halt_.go ?_
              refine (reach_any (xs.length : Int) (m : Int) A cap l wr hl HC7.out).mono ?_
              rintro e w7 ⟨A7, c7, r7, e7, rfl, hS, hown, hb⟩
              have HR7 := Lib.hid hS
              have HO7 := Lib.hid hown
              have HB7 := Lib.hid (HB.out.trans (hb.mono HB.out.size))
              have HOF7 := Lib.hid (HOF.out.below (Nat.le_refl _) HB7.out)
              clear hS hown hb
              go_wp2_with (go_at_call 35; refine halt_ ?_)
              refine Halt_.go ?_
              refine (reach_any (xs.length : Int) (m : Int) Af cf fe w7 (by have := HFL2.out; omega) HOF7.out.reads).mono ?_
              rintro e w8 ⟨A8, c8, r8, e8, rfl, hS, hown, hb⟩
              obtain rfl := few_reach HS.out (by omega) i1 HR7.out (by rw [HFE.out]; exact hS)
              have hsh := hS.short
              have HO78 := Lib.hid (HO7.out.below (Nat.le_refl _) hb)
              have HO88 := Lib.hid hown
              have HB8 := Lib.hid (HB7.out.trans (hb.mono HB7.out.size))
              have q1 := intsB_self r7
              clear hS hown hb HO7 HB7 HOF7 HR7
              go_wp2_with (go_at_call 26; refine halt_ ?_)
              refine Halt_.go ?_
              refine (ints_any A7 A8 c7 c8 r7 r7 w8 HO78.out.reads HO88.out.reads (by omega)).mono ?_
              rintro e w9 ⟨rfl, m1, rfl⟩
              rw [q1]
              have HB9 := Lib.hid (bdrewN HB8.out m1)
              generalize w8.drewN m1 = w9 at *
              clear HO78 HO88 HB8
              go_wp2
              go_roundw
              case rel => exact ⟨m + 1, by omega, by omega, by go_num, HB9⟩
              case measure => simp [intOf]; omega
            · have HBG := Lib.hid (HBF.out.trans (HB.out.mono HBF.out.size))
              clear HB
              by_cases hm2 : m < xs.length
              · have i1 : ((m : Int) < (xs.length : Int)) := by omega
                have i2 : ¬ ((m : Int) < 40) := by omega
                go_wp2_with (go_at_call 30; refine halt_ ?_)
                refine Halt_.go ?_
                refine (works_any wr).mono ?_
                rintro e w13 ⟨rfl, hb⟩
                have HB13 := Lib.hid (HBG.out.trans (hb.mono HBG.out.size))
                clear hb HBG
                go_wp2
                go_ret
                exact ⟨rfl, HB13.out⟩
              · have i1 : ¬ ((m : Int) < (xs.length : Int)) := by omega
                go_wp2_with (go_at_call 30; refine halt_ ?_)
                refine Halt_.go ?_
                refine (works_any wr).mono ?_
                rintro e w13 ⟨rfl, hb⟩
                have HB13 := Lib.hid (HBG.out.trans (hb.mono HBG.out.size))
                clear hb HBG
                go_wp2
                go_ret
                exact ⟨rfl, HB13.out⟩
end Go.Proofs.Ytjifpjfinffamaa
