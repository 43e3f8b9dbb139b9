/- Walk: the document's Needed. -/
import Derived.Test.YtjifpjfinffamaaNS
import Derived.Test.YtjifpjfinffamaaD2
namespace Go.Proofs.Ytjifpjfinffamaa
open Go.RowKit

def NeedEnds (n : Int) (l : List E) (w : World) (e : Ending) (w' : World) : Prop :=
  ∃ A c xs er, e = .returned (.tuple #[.slice A xs.length c, .int .i64 er]) ∧ NeedS n l xs er ∧ OwnI w' w.heap.size A c xs ∧ Below w.heap.size w w'
/-- edge k is edge i once more -/
def Twin (l : List E) (i k : Nat) : Prop := (eg l k).f = (eg l i).f ∧ (eg l k).t = (eg l i).t

set_option linter.unusedSimpArgs false in
set_option maxRecDepth 100000 in
set_option maxHeartbeats 3200000 in
theorem refNeeded_any (n : Int) (A : Option Addr) (cap : Nat) (l : List E) (w : World) (hl : l.length * 24 ≤ 140737488351232) (hc : RE w w.heap.size A l) :
    Calls Try.prog 38 #[.int .i64 n, .slice A l.length cap] w (NeedEnds n l w) := by
  have HC := Lib.hid hc
  clear hc
  go_enter Try.func38, Try.ntmps38
  go_wp2_with (go_at_call 41; refine halt_ ?_)
  refine Halt_.go ?_
  refine (refOrder_any n A cap l w hl HC.out).mono ?_
  rintro e w1 ⟨Ao, co, os, er, rfl, hS, hown, hb1⟩
  have HB1 := Lib.hid hb1
  have HC1 := Lib.hid ((HC.out.below hb1).more hb1.size)
  clear hb1 hown HC
  by_cases her : er = 0
  · subst her
    have HS := Lib.hid hS
    obtain ⟨N, rfl, hN, ok, hF, hxN⟩ := hS.whole
    have HOK := Lib.hid ok
    obtain ⟨b0, hb0⟩ : ∃ b, b = w1.heap.size := ⟨_, rfl⟩
    have HB0 := Lib.hid hb0
    clear hS ok hF hxN hb0
    go_wp2
    go_loopw [9, 8] (fun i v wr => ∃ (p : Nat) (Ab : Option Addr) (cb : Nat), p ≤ l.length ∧ i = .int .i64 p ∧ v = .slice Ab (ndL l p).length cb ∧ Hid (OwnI wr b0 Ab cb (ndL l p)) ∧ Hid (Below b0 w1 wr)) (fun i _ _ => l.length - (intOf i).toNat)
    case atStart => exact ⟨0, none, 0, Nat.zero_le _, rfl, rfl, Lib.hid (OwnI.nil _ _), Lib.hid (Below.refl _ _)⟩
    case round =>
      obtain ⟨p, Ab, cb, hp, rfl, rfl, HO, HB⟩ := hrel
      by_cases hlt : p < l.length
      · obtain ⟨wo, rfl⟩ : ∃ x, x = wr := ⟨_, rfl⟩
        have i1 : (0 : Int) ≤ (p : Int) := by omega
        have i2 : (p : Int) < (l.length : Int) := by omega
        have hwb := HB.out.size
        go_wp2
        go_loopw [11, 10] (fun i v wr => ∃ (q : Nat) (tw : Bool), q ≤ p ∧ i = .int .i64 q ∧ v = .bool tw ∧ Hid (tw = true ↔ ∃ k, k < q ∧ Twin l p k) ∧ Hid (Below wo.heap.size wo wr)) (fun i _ _ => p - (intOf i).toNat)
        case atStart => exact ⟨0, false, Nat.zero_le _, rfl, rfl, Lib.hid ⟨fun h => absurd h (by decide), fun ⟨k, hk, _⟩ => absurd hk (Nat.not_lt_zero _)⟩, Lib.hid (Below.refl _ _)⟩
        case round =>
          obtain ⟨q, tw, hq, rfl, rfl, HT, HB2⟩ := hrel
          have hbw : Below w1.heap.size w1 wr := (HB.out.mono (Nat.le_of_eq HB0.out.symm)).trans (HB2.out.mono hwb)
          obtain ⟨eb, eo, f, t, kk, hA, heb, he, he1, he2, he3⟩ := HC1.out.at_ hbw hlt
          subst hA
          have heg : eg l p = ⟨f, t, kk⟩ := by simp [eg, List.getD, he.out]
          have HEG := Lib.hid heg
          have hmem := HOK.out _ (List.mem_of_getElem? he.out)
          simp only at hmem
          have HMEM := Lib.hid hmem
          clear heg hmem he
          by_cases hql : q < p
          · obtain ⟨f2, t2, kk2, _, hg2, _, hq1, hq2⟩ := HC1.out.at2 hbw (k := q) (by omega)
            have HG2 := Lib.hid hg2
            have i3 : (0 : Int) ≤ (q : Int) := by omega
            have i4 : (q : Int) < (l.length : Int) := by omega
            have i5 : (q : Int) < (p : Int) := by omega
            have HN := Lib.hid (fun (b : Bool) (h : b = true ↔ Twin l p q) => show ((tw || b) = true ↔ ∃ k, k < q + 1 ∧ Twin l p k) from by
              rw [Bool.or_eq_true, HT.out, h]
              constructor
              · rintro (⟨k, h1, h2⟩ | h2)
                · exact ⟨k, by omega, h2⟩
                · exact ⟨q, Nat.lt_succ_self _, h2⟩
              · rintro ⟨k, h1, h2⟩
                rcases Nat.lt_or_eq_of_le (Nat.lt_succ_iff.1 h1) with h3 | rfl
                · exact .inl ⟨k, h3, h2⟩
                · exact .inr h2)
            clear hg2
            cases tw with
            | true =>
              go_wp2
              go_quiet (fail)
              go_wp2
              go_roundw
              case rel => exact ⟨q + 1, true, hql, by go_num, rfl, Lib.hid ⟨fun _ => by obtain ⟨k, h1, h2⟩ := HT.out.1 (by simp); exact ⟨k, by omega, h2⟩, fun _ => rfl⟩, Lib.hid (bdrewN HB2.out _)⟩
              case measure => simp [intOf]; omega
            | false =>
              by_cases hf : f2 = f
              · by_cases ht : t2 = t
                · have e1 : (f2 == f) = true := by simpa using hf
                  have e2 : (t2 == t) = true := by simpa using ht
                  have HTW := Lib.hid (show Twin l p q from ⟨by rw [HG2.out, HEG.out]; exact hf, by rw [HG2.out, HEG.out]; exact ht⟩)
                  clear hf ht
                  go_wp2
                  go_quiet (fail)
                  go_wp2
                  go_roundw
                  case rel => exact ⟨q + 1, true, hql, by go_num, rfl, Lib.hid (HN.out true ⟨fun _ => HTW.out, fun _ => rfl⟩), Lib.hid (bdrewN HB2.out _)⟩
                  case measure => simp [intOf]; omega
                · have e1 : (f2 == f) = true := by simpa using hf
                  have e2 : (t2 == t) = false := by simpa using ht
                  have HTW := Lib.hid (show ¬ Twin l p q from fun h => ht (by have := h.2; rw [HG2.out, HEG.out] at this; exact this))
                  clear hf ht
                  go_wp2
                  go_quiet (fail)
                  go_wp2
                  go_roundw
                  case rel => exact ⟨q + 1, false, hql, by go_num, rfl, Lib.hid (HN.out false ⟨fun h => absurd h (by decide), fun h => absurd h HTW.out⟩), Lib.hid (bdrewN HB2.out _)⟩
                  case measure => simp [intOf]; omega
              · have e1 : (f2 == f) = false := by simpa using hf
                have HTW := Lib.hid (show ¬ Twin l p q from fun h => hf (by have := h.1; rw [HG2.out, HEG.out] at this; exact this))
                clear hf
                go_wp2
                go_quiet (fail)
                go_wp2
                go_roundw
                case rel => exact ⟨q + 1, false, hql, by go_num, rfl, Lib.hid (HN.out false ⟨fun h => absurd h (by decide), fun h => absurd h HTW.out⟩), Lib.hid (bdrewN HB2.out _)⟩
                case measure => simp [intOf]; omega
          · have hqp : q = p := by omega
            subst hqp
            obtain ⟨f, rfl⟩ := Int.eq_ofNat_of_zero_le HMEM.out.1.1
            obtain ⟨t, rfl⟩ := Int.eq_ofNat_of_zero_le HMEM.out.2.1
            have htN : t < N := by have := HMEM.out.2.2; omega
            have HBW := Lib.hid hbw
            have HOW := Lib.hid (HO.out.below (Nat.le_refl _) HB2.out)
            have HCW := Lib.hid ((HC1.out.below hbw).more hbw.size)
            have hb0s : b0 ≤ w1.heap.size := Nat.le_of_eq HB0.out
            clear hbw HO HB2 HB hwb HMEM
            cases tw with
            | true =>
              have HM := Lib.hid (ndL_miss (l := l) (k := q) fun h => by
                obtain ⟨k, h1, h2⟩ := HT.out.1 (by simp)
                exact h.1 k h1 h2)
              clear HT
              go_wp2
              go_roundw
              case rel => exact ⟨q + 1, Ab, cb, hlt, by go_num, by rw [HM.out], Lib.hid (by rw [HM.out]; exact HOW.out), Lib.hid (HBW.out.mono hb0s)⟩
              case measure => simp [intOf]; omega
            | false =>
              have HNT := Lib.hid (show ∀ k, k < q → ¬ Twin l q k from fun k h1 h2 => absurd (HT.out.2 ⟨k, h1, h2⟩) (by simp))
              clear HT
              go_wp2_with (go_at_call 80; refine halt_ ?_)
              refine Halt_.go ?_
              refine (stands_any N f t kk (some ⟨eb, eo, none⟩) cap l wr hN htN HOK.out hl HCW.out).mono ?_
              rintro e w3 ⟨b, rfl, hst, hb3⟩
              have HST := Lib.hid hst
              have HB3 := Lib.hid (HBW.out.trans (hb3.mono HBW.out.size))
              have HO3 := Lib.hid (HOW.out.below (Nat.le_refl _) hb3)
              clear hst hb3 HBW HOW HCW
              cases b with
              | true =>
                have HM := Lib.hid (ndL_miss (l := l) (k := q) fun h => by
                  obtain ⟨j, h1, h2, h3, h4⟩ := HST.out.1 (by simp)
                  exact h.2 j h1 (by rw [HEG.out]; exact h2) (by rw [HEG.out]; exact h3) (by rw [HEG.out]; exact h4))
                clear HST
                go_wp2
                go_roundw
                case rel => exact ⟨q + 1, Ab, cb, hlt, by go_num, by rw [HM.out], Lib.hid (by rw [HM.out]; exact HO3.out), Lib.hid (HB3.out.mono hb0s)⟩
                case measure => simp [intOf]; omega
              | false =>
                have HM := Lib.hid (ndL_hit (l := l) (k := q) ⟨fun k hk h => HNT.out k hk h, fun j h1 h2 h3 h4 => by
                  rw [HEG.out] at h2 h3 h4
                  exact absurd (HST.out.2 ⟨j, h1, h2, h3, h4⟩) (by simp)⟩)
                clear HST HNT
                have hnl := ndL_len l q
                go_wp2_with (at_builtin; refine halt_ ?_)
                refine Halt_.go ?_
                refine wl_push _ (by rfl) (.tmp 71) (.tmp 73) 31 (by rfl) info3 Try.underlying31 b0 Ab cb (ndL l q) (by rfl) (HO3.out.below (Nat.le_refl _) ((Below.refl _ _).alloc (Nat.le_refl _) _)) w3.heap.size 1 (q : Int) (by rfl) (heap_at _ _ _ rfl) (by omega) (by have := HB3.out.size; simp; omega) ?_
                intro A4 c4 w4 hown4 hkeep
                have hb4 := hkeep _ _ (Nat.le_refl _) ((HB3.out.mono hb0s).alloc (Nat.le_trans hb0s HB3.out.size) (.cells #[.int .i64 (q : Int)] 3))
                rw [← HM.out] at hown4
                have HO4 := Lib.hid hown4
                have HB4 := Lib.hid hb4
                have HLN := Lib.hid (show (ndL l q).length + 1 = (ndL l (q + 1)).length by rw [HM.out]; simp)
                clear hkeep hown4 hb4 HO3 HB3
                go_wp2
                go_roundw
                case rel => exact ⟨q + 1, A4, c4, hlt, by go_num, by rw [HLN.out], HO4, HB4⟩
                case measure => simp [intOf]; omega
      · have hpl : p = l.length := by omega
        subst hpl
        have HX := Lib.hid (show NeedS (N : Int) l (ndL l l.length) 0 from .inr ⟨rfl, os, HS.out, rfl⟩)
        have HBF := Lib.hid (HB1.out.trans (HB.out.mono (by rw [HB0.out]; exact HB1.out.size)))
        have HOF := Lib.hid (HO.out.base (by rw [HB0.out]; exact HB1.out.size))
        go_wp2
        go_ret2
        exact ⟨_, _, _, 0, rfl, HX.out, HOF.out, HBF.out⟩
  · have h0 := hS.none_ her
    subst h0
    have HS := Lib.hid hS
    clear hS
    go_wp2
    go_ret2
    exact ⟨none, 0, [], er, rfl, .inl ⟨her, HS.out, rfl⟩, OwnI.nil _ _, HB1.out⟩
end Go.Proofs.Ytjifpjfinffamaa
