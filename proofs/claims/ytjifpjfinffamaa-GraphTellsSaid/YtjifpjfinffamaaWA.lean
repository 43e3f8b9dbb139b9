/- Walk: graph.Order. -/
import Derived.Test.YtjifpjfinffamaaO1
import Derived.WalkMore
import Derived.Deep.LoopGhost
namespace Go.Proofs.Ytjifpjfinffamaa
open Go.RowKit

def OrderEnds (n : Int) (l : List E) (w : World) (e : Ending) (w' : World) : Prop :=
  ∃ A c xs er, e = .returned (.tuple #[.slice A xs.length c, .int .i64 er]) ∧ OrderS n l xs er ∧ OwnI w' w.heap.size A c xs ∧ Below w.heap.size w w'

set_option linter.unusedSimpArgs false in
set_option maxRecDepth 100000 in
set_option maxHeartbeats 3200000 in
theorem order_any (n : Int) (A : Option Addr) (cap : Nat) (l : List E) (w : World) (hl : l.length * 24 ≤ 140737488351232) (hc : RE w w.heap.size A l) :
    Calls Try.prog 39 #[.int .i64 n, .slice A l.length cap] w (OrderEnds n l w) := by
  by_cases hR : rightB n l = true
  · obtain ⟨N, rfl, hN, ok⟩ := right_ok hR
    go_enter Try.func39, Try.ntmps39
    have HOK := Lib.hid ok
    clear ok
    go_wp2_with (first
      | (go_at_call 67; refine (right_any _ _ _ l _ (by omega) hc).mono ?_; rintro e w1 ⟨rfl, hb1⟩; have hc1 := (hc.below hb1).more hb1.size)
      | (go_at_call 68; refine (out_any N _ _ l _ hN HOK.out hl hc1).mono ?_; rintro e w2 ⟨A3, c3, rfl, hr2, hb2⟩; have hc2 := (hc1.below hb2).more hb2.size)
      | (at_make; refine halt_ ?_))
    refine Halt_.go ?_
    have hbw : Below w.heap.size w w2 := hb1.trans (hb2.mono hb1.size)
    have HBW := Lib.hid hbw
    have hws := hbw.size
    have HR := Lib.hid hR
    clear hR hc hc1 hb1 hb2 hbw
    obtain ⟨i0, hi, hz0, hz1, hz2⟩ := info_parts info3
    refine wpList_make_full _ rfl _ _ 31 rfl w2.heap.size 3 i0 _ 1 Try.underlying31 hi hz0 hz1 _ _ _ _ N (by rfl) (by rfl) rfl rfl (by rw [hz2]; omega) (by unfold maxLen; omega) (Nat.le_refl _) ?_
    intro w3 hown1 hgrow1
    have hds : (madeCells (Value.int .i64 0).cells (N * 1)).toList = ints (List.replicate N 0) := by
      rw [show (Value.int .i64 0).cells = #[Value.int .i64 0] from rfl, toList_madeCells_one, Nat.mul_one]
      simp [ints]
    rw [hds] at hown1
    have hb1 : Below w2.heap.size w2 w3 := (Below.refl _ _).grown hgrow1 (Nat.le_refl _) (fun g hg => by cases hg)
    have HRR := Lib.hid hr2
    have HC := Lib.hid hc2
    clear hds hgrow1 hi hz0 hz1 hz2 hr2 hc2
    obtain ⟨g0, hg0⟩ : ∃ g0, g0 = w2.heap.size := ⟨_, rfl⟩
    rw [← hg0] at hown1
    rw [← hg0]
    have HG0 := Lib.hid hg0
    have hg0w : w2.heap.size = g0 := hg0.symm
    clear hg0
    go_wp2
    go_loopw [29] (fun i wr => ∃ (k : Nat) (ah : List Int), k ≤ l.length ∧ i = .int .i64 k ∧ wr.ownsRow g0 3 1 (.slice (some ⟨g0, 0, none⟩) N N) N (ints ah) ∧ OI N l (fun j => decide (k ≤ j)) [] ah ∧ Below g0 w2 wr) (fun i _ => l.length - (intOf i).toNat)
    case atStart => exact ⟨0, _, Nat.zero_le _, rfl, hown1, OI.start N l, by rw [HG0.out]; exact hb1⟩
    case round =>
      clear hown1 hb1
      obtain ⟨k, ah, hk, rfl, hown, hoi, hbel⟩ := hrel
      have hsz := hbel.size
      rw [hg0w] at hsz
      by_cases hlt : k < l.length
      · obtain ⟨eb, eo, f, t, kk, rfl, heb, he, he1, he2, he3⟩ := HC.out.at_ (hbel.mono (Nat.le_of_eq hg0w)) hlt
        have heg : eg l k = ⟨f, t, kk⟩ := by simp [eg, List.getD, he.out]
        have hmem := HOK.out _ (List.mem_of_getElem? he.out)
        simp only at hmem
        obtain ⟨t, rfl⟩ := Int.eq_ofNat_of_zero_le hmem.2.1
        have htN : t < N := by have := hmem.2.2; omega
        have hal := hoi.len
        have hbd := hoi.bound t htN
        have h2 := hoi.count hlt (by rw [heg]) htN
        have hcell : wr.cell? ⟨g0, t, none⟩ = some (.int .i64 (nth ah t)) := by
          rw [hown.cellAt t (by omega)]
          simp [ints, nth_some (show t < ah.length by omega)]
        have hfr := hown.frozenAt t
        have i1 : (0 : Int) ≤ (t : Int) := by omega
        have i2 : (t : Int) < (N : Int) := by omega
        have hgw := (hown.lt g0 rfl).2
        have hne : ¬ wr.heap.size = g0 := by omega
        have hne2 : ¬ g0 = wr.heap.size := by omega
        have H2 := Lib.hid h2
        have HO := Lib.hid hown
        have HB := Lib.hid hbel
        clear h2 hown hbel heg hmem he hoi
        go_wp2
        go_roundw
        case rel => exact ⟨k + 1, _, hlt, by go_num, (own_set HO.out t _).alloc _, H2.out, (HB.out.setCell (p := ⟨g0, t, none⟩) (Nat.le_refl _) _).alloc (by simp; omega) _⟩
        case measure => simp [intOf]; omega
      · have hkl : k = l.length := by omega
        subst hkl
        have h0 := hoi.counted
        have h1 := HI.start h0
        have hal := h0.len
        have hgw := (hown.lt g0 rfl).2
        obtain ⟨p, hp⟩ : ∃ p, p = wr.heap.size := ⟨_, rfl⟩
        obtain ⟨w4, hw4⟩ : ∃ w4, w4 = wr.alloc (.cells #[.slice none 0 0] 124) := ⟨_, rfl⟩
        have hs4 : HS w4 p (.slice none 0 0) [] := by
          rw [hw4, hp]
          exact ⟨heap_at _ _ _ rfl, World.ownsRow_nil _ _ _ _⟩
        have how : OW N p g0 w2 w4 [] [] none 0 none 0 ah := by
          refine ⟨OwnI.nil _ _, hs4, ?_, fun k hk => by simp [Value.ownBlock] at hk, ?_, by omega⟩
          · rw [hw4]; exact hown.alloc _
          · rw [hw4]; exact hbel.alloc hsz _
        have H0 := Lib.hid h0
        have H1 := Lib.hid h1
        have HO := Lib.hid how
        have hpw : w4.heap.size = p + 1 := by rw [hw4, hp]; simp
        clear hown hoi hbel h0 h1 hs4 how
        go_wp2
        rw [← hw4, ← hp]
        clear hw4 hp
        go_wp2
        go_loopw [43] (fun i wr => ∃ (k : Nat) (A : Option Addr) (c : Nat), k ≤ N ∧ i = .int .i64 k ∧ OW N p g0 w2 wr [] (zeros ah k) A c none 0 ah) (fun i _ => N - (intOf i).toNat)
        case atStart => exact ⟨0, none, 0, Nat.zero_le _, rfl, HO.out⟩
        case round =>
          clear HO hpw hgw hsz
          obtain ⟨k, A, c, hk, rfl, how⟩ := hrel
          have hzl := zeros_len ah k
          by_cases hlt : k < N
          · have hca : wr.cell? ⟨g0, k, none⟩ = some (.int .i64 (nth ah k)) := by
              rw [how.ahead.cellAt k (by omega)]
              simp [ints, nth_some (show k < ah.length by omega)]
            have hcp := how.heap.cell
            have hfr := frozen_of_row wr p 0 _ 124 how.heap.1
            have HO := Lib.hid how
            obtain ⟨z, hz⟩ : ∃ z, nth ah k = z := ⟨_, rfl⟩
            rw [hz] at hca
            have HZ := Lib.hid hz
            clear how hz
            by_cases h0 : z = 0
            · go_wp2_with (at_builtin; refine halt_ ?_)
              refine Halt_.go ?_
              have how2 := HO.out.alloc (.cells #[.int .i64 (k : Int)] 3)
              have hpw2 := HO.out.pw
              have hgp := HO.out.gp
              refine wl_append1 _ (by rfl) (.tmp 50) (.tmp 52) 124 (by rfl) (p + 1) 3 _ 1 8 info3 Try.underlying124 rfl (by decide) (.slice A (zeros ah k).length c) (zeros ah k).length (ints (zeros ah k)) (by rfl) how2.heap.2 wr.heap.size 1 [.int .i64 (k : Int)] (by rfl) (heap_at _ _ _ rfl) rfl (by simp [Value.oneCell']) (by omega) (by omega) (by simp; omega) _ rfl ?_
              intro g cap' w5 hown5 hgr5 hrow5 hlt5
              have hne0 : some p ≠ (Value.slice A (zeros ah k).length c).ownBlock := fun hc => by have := (how2.heap.2.lt p hc.symm).1; omega
              have hq2 : w5.cell? ⟨p, 0, none⟩ = some (.slice A (zeros ah k).length c) := hgr5.cell how2.heap.cell hne0
              have hq3 : w5.frozen? ⟨p, 0, none⟩ = false := grown_frozen hgr5 (by simp; omega) hne0 (frozen_of_row _ p 0 _ 124 how2.heap.1)
              have hps := how2.heap.pushed hgr5 hown5 (by rcases hrow5 with h | h; exact .inl h; exact .inr (Nat.le_of_eq h.symm))
              have hz1 : zeros ah k ++ [(k : Int)] = zeros ah (k + 1) := (zeros_hit (HZ.out.trans h0)).symm
              have hz2 : (zeros ah k).length + 1 = (zeros ah (k + 1)).length := by rw [← hz1]; simp
              rw [hz1, hz2] at hps
              rw [hz2]
              have how3 := how2.moves hps.1 hps.2
              have HO3 := Lib.hid how3
              clear how2 hps hown5 hgr5 hrow5 hlt5 hne0 how3 hz1 hz2 HZ HO
              go_wp2
              go_roundw
              case rel => exact ⟨k + 1, _, _, hlt, by go_num, HO3.out⟩
              case measure => simp [intOf]; omega
            · go_wp2
              go_roundw
              case rel => exact ⟨k + 1, A, c, hlt, by go_num, by rw [zeros_miss (by rw [HZ.out]; exact h0)]; exact HO.out⟩
              case measure => simp [intOf]; omega
          · have hkN : k = N := by omega
            subst hkN
            have hgp := how.gp
            have hpw2 := how.pw
            have HO := Lib.hid how
            clear how
            go_wp2_with fail
            go_at_call 81
            refine (init_any p A _ c _ _ HO.out.heap (by omega)).mono ?_
            rintro e w5 ⟨hs, rfl, hs5, hm5, hp5, hh5⟩
            have how5 := HO.out
            rw [← hp5.length_eq] at hs5 hm5 hh5
            have how5 := HO.out.moves hs5 (by rw [← hp5.length_eq]; exact hm5)
            have hi5 := H1.out.perm hp5
            have HO5 := Lib.hid how5
            have HI5 := Lib.hid hi5
            have HH5 := Lib.hid hh5
            clear hs5 hm5 hp5 hh5 how5 hi5 HO
            have has := fun (v : Value) (w : World) => assert3 v w
            go_wp2
            go_loopg [13] k (fun gk v wr => ∃ (xs hs ah : List Int) (A : Option Addr) (c : Nat) (B : Option Addr) (cB : Nat), v = .slice B xs.length cB ∧ Hid (OW k p g0 w2 wr xs hs A c B cB ah) ∧ Hid (HP hs hs.length 0) ∧ Hid (Gr k l xs) ∧ Hid (OI k l (DX l xs) xs ah) ∧ Hid (HI k l (DX l xs) xs hs) ∧ k - xs.length ≤ gk ∧ gk ≤ k)
            case atStart => exact ⟨[], hs, ah, A, c, none, 0, rfl, HO5, HH5, Lib.hid Gr.nil, H0, HI5, by simp, Nat.le_refl _⟩
            case round =>
              clear HO5 HH5 H0 HI5 H1
              obtain ⟨xs, hs, ah, A, c, B, cB, rfl, HO, HH, HG, H0, H1, hgk, hgk2⟩ := hrel
              have hxl := HG.out.le
              have hhl := H1.out.le
              have hcp := HO.out.heap.cell
              have hxb : xs.length ≤ k := hxl
              obtain ⟨m, hm⟩ : ∃ m, hs.length = m := ⟨_, rfl⟩
              rw [hm] at hcp
              cases m with
              | zero =>
                obtain rfl : hs = [] := List.eq_nil_of_length_eq_zero hm
                have hfull : Full k l xs := ⟨HG.out, fun v hv => by have := (H1.out.mem v).2 hv; simp at this⟩
                have HF := Lib.hid hfull
                have hbf := HBW.out.trans ((hg0w ▸ HO.out.below : Below w2.heap.size w2 wr).mono hws)
                have how := HO.out.order
                have HBF := Lib.hid hbf
                have HOO := Lib.hid how
                clear hfull hbf how
                go_wp2_with (go_at_call 82; refine (len_any _ _ _ _).mono ?_; rintro e wr ⟨rfl, rfl⟩)
                · have hlx : xs.length < k := by assumption
                  go_ret2
                  exact ⟨none, 0, [], 270, rfl, .inr ⟨HR.out, xs, HF.out, .inl ⟨hlx, rfl, rfl⟩⟩, OwnI.nil _ _, HBF.out⟩
                · have hlx : k ≤ xs.length := by omega
                  go_ret2
                  exact ⟨_, _, xs, 0, rfl, .inr ⟨HR.out, xs, HF.out, .inr ⟨hlx, rfl, rfl⟩⟩, HOO.out.base (by omega), HBF.out⟩
              | succ m =>
                have HM := Lib.hid hm
                have hp0 := HO.out.heap
                rw [hm] at hp0
                have hh0 := HH.out
                rw [hm] at hh0
                have hpop := pop_any p A m c hs wr hp0 (by omega) hh0
                have HP0 := Lib.hid hpop
                clear hp0 hh0 hpop
                go_wp2_with (first
                  | (go_at_call 82; refine (len_any _ _ _ _).mono ?_; rintro e wr ⟨rfl, rfl⟩)
                  | (go_at_call 83; refine halt_ ?_))
                refine Halt_.go ?_
                refine HP0.out.mono ?_
                rintro e w6 ⟨x, hs6, rfl, hh6, hm6, hp6, hq6, hmin⟩
                clear HP0
                have hl6 : hs6.length = m := hh6.len
                have hxm := (H1.out.mem x).1 (hp6.mem_iff.1 List.mem_cons_self)
                have hrd : rdy k l xs x := hxm
                have hG2 := HG.out.snoc hrd fun u hu => hmin u ((H1.out.mem u).2 hu)
                have h12 := H1.out.take hp6
                have how6 := HO.out
                rw [HM.out.symm] at hm6
                obtain ⟨x, rfl⟩ := Int.eq_ofNat_of_zero_le hxm.1
                have hxk : x < k := by have := hxm.2.1; omega
                have hxs := hxm.2.2.1
                rw [← hl6] at hh6 hm6 hq6
                have how6 := HO.out.moves hh6 (by rw [show hs.length = hs6.length + 1 from by rw [HM.out, hl6]]; rw [HM.out, ← hl6] at hm6; exact hm6)
                have h02 : OI k l (DX l xs) (xs ++ [(x : Int)]) ah := ⟨H0.out.len, H0.out.val, fun v hv => by
                  rcases List.mem_append.1 hv with h | h
                  · exact H0.out.done v h
                  · rw [List.mem_singleton] at h; rw [h]; exact hxm.2.2.2⟩
                have hxg : xs.length < k := by have := hG2.le; simp at this; omega
                have HO6 := Lib.hid how6
                have HQ6 := Lib.hid hq6
                have HG2 := Lib.hid hG2
                have H02 := Lib.hid h02
                have H12 := Lib.hid h12
                have HXS := Lib.hid hxs
                clear how6 hh6 hm6 hp6 hq6 hmin hxm hrd hG2 h12 h02 hcp HO HH HG H0 H1 HM hm hhl hxs hl6
                go_wp2_with (at_builtin; refine halt_ ?_)
                refine Halt_.go ?_
                have how7 := HO6.out.alloc (.cells #[.int .i64 (x : Int)] 3)
                refine wl_append1 _ (by rfl) (.tmp 63) (.tmp 65) 31 (by rfl) (p + 1) 3 _ 1 8 info3 Try.underlying31 rfl (by decide) (.slice B xs.length cB) xs.length (ints xs) (by rfl) how7.order w6.heap.size 1 [.int .i64 (x : Int)] (by rfl) (heap_at _ _ _ rfl) rfl (by simp [Value.oneCell']) (by omega) (by omega) (by have := how7.pw; omega) _ rfl ?_
                intro g cB' w7 hown7 hgr7 hrow7 hlt7
                have how8 := how7.push hown7 hgr7 (by rcases hrow7 with h | h; exact .inl h; exact .inr (Nat.le_of_eq h.symm))
                have hl8 : xs.length + 1 = (xs ++ [(x : Int)]).length := by simp
                obtain ⟨ys, hys⟩ : ∃ ys, xs ++ [(x : Int)] = ys := ⟨_, rfl⟩
                have HYS := Lib.hid hys
                have hyl : ys.length = xs.length + 1 := by rw [← hys]; simp
                rw [hl8]
                rw [hys] at how8 ⊢
                have HO8 := Lib.hid how8
                have HG3 := Lib.hid (hys ▸ HG2.out)
                have H03 := Lib.hid (hys ▸ H02.out)
                have H13 := Lib.hid (hys ▸ H12.out)
                clear how7 how8 hown7 hgr7 hrow7 hlt7 hl8 HO6 HG2 H02 H12 hys
                have hbr : Below w2.heap.size w2 w7 := by rw [hg0w]; exact HO8.out.below
                obtain ⟨rb, ro, Ar, cr, rfl, hrb, hcr, hrk⟩ := RR_at HRR.out hbr (k := x) (by simp [outRows]; omega)
                have hrow : (outRows l k)[x]'(by simp [outRows]; omega) = outRow l x l.length := by simp [outRows]
                rw [hrow] at hcr hrk
                have HR2 := Lib.hid hrk
                have i1 : (0 : Int) ≤ (x : Int) := by omega
                have i2 : (x : Int) < (k : Int) := by omega
                have hcnt := outRow_len l x l.length
                clear hrow hrk hbr
                go_wp2
                go_loopw [72] (fun i wr => ∃ (q : Nat) (hs ah : List Int) (A : Option Addr) (c : Nat), q ≤ (outRow l x l.length).length ∧ i = .int .i64 q ∧ Hid (OW k p g0 w2 wr ys hs A c (some ⟨g, 0, none⟩) cB' ah) ∧ Hid (HP hs hs.length 0) ∧ Hid (OI k l (DR l xs x q) ys ah) ∧ Hid (HI k l (DR l xs x q) ys hs)) (fun i _ => (outRow l x l.length).length - (intOf i).toNat)
                case atStart => exact ⟨0, _, _, _, _, Nat.zero_le _, rfl, HO8, HQ6, Lib.hid (H03.out.congr (DR.start l xs x)), Lib.hid (H13.out.congr (DR.start l xs x))⟩
                case round =>
                  clear HO8 HQ6 H03 H13 hcr
                  obtain ⟨q, hs, ah, A, c, hq, rfl, HO, HH, H0, H1⟩ := hrel
                  have hbr : Below w2.heap.size w2 wr := by rw [hg0w]; exact HO.out.below
                  by_cases hlt : q < (outRow l x l.length).length
                  · obtain ⟨pb, po, i, rfl, hpb, hi, hci⟩ := HR2.out.at_ hbr hlt
                    obtain ⟨i, rfl, hil, hif⟩ := mem_outRow (List.mem_of_getElem? hi.out)
                    obtain ⟨eb, eo, f, t, kk, rfl, heb, he, he1, he2, he3⟩ := HC.out.at_ hbr hil
                    have heg : eg l i = ⟨f, t, kk⟩ := by simp [eg, List.getD, he.out]
                    have hmem := HOK.out _ (List.mem_of_getElem? he.out)
                    simp only at hmem
                    obtain ⟨t, rfl⟩ := Int.eq_ofNat_of_zero_le hmem.2.1
                    have htk : t < k := by have := hmem.2.2; omega
                    obtain ⟨hd1, hd2⟩ := DR.next HXS.out hi.out
                    obtain ⟨hoi2, hge, htn⟩ := H0.out.del hil hd1 (by rw [heg]) htk
                    have hbd := H0.out.bound t htk
                    have hv2 := hoi2.val t htk
                    rw [nth_def, List.getElem?_set_self (by rw [H0.out.len]; exact htk), Option.getD_some] at hv2
                    have hal := H0.out.len
                    have hhl := H1.out.le
                    have hcell : wr.cell? ⟨g0, t, none⟩ = some (.int .i64 (nth ah t)) := by
                      rw [HO.out.ahead.cellAt t (by omega)]
                      simp [ints, nth_some (show t < ah.length by omega)]
                    have hfr := HO.out.ahead.frozenAt t
                    have how2 := HO.out.set t (nth ah t - 1)
                    obtain ⟨z, hz⟩ : ∃ z, nth ah t = z := ⟨_, rfl⟩
                    rw [hz] at hcell hge hbd hv2 how2 hoi2
                    have hoi3 := hoi2.congr fun j hj => (hd2 j hj).symm
                    have i3 : (0 : Int) ≤ (q : Int) := by omega
                    have i4 : (q : Int) < ((outRow l x l.length).length : Int) := by omega
                    have i5 : (0 : Int) ≤ (i : Int) := by omega
                    have i6 : (i : Int) < (l.length : Int) := by omega
                    have i7 : (0 : Int) ≤ (t : Int) := by omega
                    have i8 : (t : Int) < (k : Int) := by omega
                    by_cases h0 : z - 1 = 0
                    · rw [h0] at how2 hoi3
                      have HOS := Lib.hid how2
                      have HOI := Lib.hid hoi3
                      have h13 : ∀ hs', hs'.Perm ((t : Int) :: hs) → HI k l (DR l xs x (q + 1)) ys hs' := fun hs' hp => (H1.out.push hil hd1 (by rw [heg]) (by omega) (by omega) (by omega) htn hp).congr fun j hj => (hd2 j hj).symm
                      have H13 := Lib.hid h13
                      clear h13 how2 hoi3 hoi2 hv2 hz hd1 hd2 heg hmem he hif hi htn HO H0 H1 hbr he3
                      have hpush := push_any p A hs.length c hs (t : Int) _ HOS.out.heap (by omega) HH.out
                      have HPU := Lib.hid hpush
                      clear hpush
                      have hz1 : z = 1 := by omega
                      subst hz1
                      go_wp2_with (go_at_call 84; refine halt_ ?_)
                      refine Halt_.go ?_
                      refine HPU.out.mono ?_
                      rintro e w9 ⟨A9, c9, hs9, rfl, hh9, hm9, hp9, hq9⟩
                      have hl9 : hs9.length = hs.length + 1 := hh9.len
                      rw [← hl9] at hh9 hm9 hq9
                      have how9 := HOS.out.moves hh9 hm9
                      have HO9 := Lib.hid how9
                      have HQ9 := Lib.hid hq9
                      have H19 := Lib.hid (H13.out hs9 hp9)
                      clear how9 hh9 hm9 hp9 hq9 hl9 HPU H13 HOS
                      go_wp2
                      go_roundw
                      case rel => exact ⟨q + 1, hs9, _, A9, c9, hlt, by go_num, HO9, HQ9, HOI, H19⟩
                      case measure => simp [intOf]; omega
                    · have HOS := Lib.hid how2
                      have HOI := Lib.hid hoi3
                      have hcn : cnt l (del (DR l xs x q) i) (t : Int) ≠ 0 := by omega
                      have h13 : HI k l (DR l xs x (q + 1)) ys hs := (H1.out.keep hil hd1 (by rw [heg]) hcn).congr fun j hj => (hd2 j hj).symm
                      have H13 := Lib.hid h13
                      clear h13 how2 hoi3 hoi2 hv2 hz hd1 hd2 heg hmem he hif hi htn HO H0 H1 hbr he3
                      go_wp2
                      go_roundw
                      case rel => exact ⟨q + 1, hs, _, A, c, hlt, by go_num, HOS, HH, HOI, H13⟩
                      case measure => simp [intOf]; omega
                  · have hql : q = (outRow l x l.length).length := by omega
                    subst hql
                    have H04 := Lib.hid (H0.out.congr (DR.fin l xs x))
                    have H14 := Lib.hid (H1.out.congr (DR.fin l xs x))
                    rw [HYS.out] at H04 H14
                    go_wp2
                    go_roundg (k - ys.length)
                    case measure => omega
                    case rel => exact ⟨ys, hs, ah, A, c, _, _, by rw [hyl], HO, HH, HG3, H04, H14, Nat.le_refl _, by omega⟩
  · have hR2 : rightB n l = false := by simpa using hR
    go_enter Try.func39, Try.ntmps39
    clear hR
    go_wp2_with (go_at_call 67; refine (right_any _ _ _ l _ (by omega) hc).mono ?_; rintro e w1 ⟨rfl, hb1⟩)
    go_ret2
    exact ⟨none, 0, [], 2, rfl, .inl ⟨hR2, rfl, rfl⟩, OwnI.nil _ _, hb1⟩
end Go.Proofs.Ytjifpjfinffamaa
