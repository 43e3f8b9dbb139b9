/- The walk of RacesAhead [10], for histories that can be. -/
import Derived.Test.YtjifpjfinffamaaZ26
namespace Go.Proofs.Ytjifpjfinffamaa
open Go.RowKit

set_option linter.unusedSimpArgs false in
set_option maxRecDepth 100000 in
set_option maxHeartbeats 12800000 in
theorem law10_good (A : Option Addr) (cap : Nat) (l : List Ev) (Aw : Option Addr) (cw : Nat) (ws : List Int) (Ap : Option Addr) (cp : Nat) (ps : List (Int × Int)) (w : World) (hlg : ¬ 300 < l.length) (hpg : ¬ 40 < ps.length) (hk : chk ss0 l 0 = (-1, 0)) (hc : EvR w w.heap.size A l) (hw : RK .u64 w w.heap.size Aw ws) (hp : RP2 w w.heap.size Ap ps) (hwl : ws.length * 8 ≤ 140737488351232) :
    Calls Try.prog 10 #[.slice A l.length cap, .slice Aw ws.length cw, .slice Ap ps.length cp] w fun e w' => e = .returned (.bool true) ∧ Below w.heap.size w w' := by
  have d1 : ¬ (300 : Int) < (l.length : Int) := by omega
  have d2 : ¬ (40 : Int) < (ps.length : Int) := by omega
  have hll : l.length ≤ 1099511627776 := by omega
  have hl1 : l.length ≤ 1000 := by omega
  have hwl2 : ws.length ≤ 17592186043904 := by omega
  have HC := Lib.hid hc
  have HWD := Lib.hid hw
  have HPS := Lib.hid hp
  have HHB := Lib.hid (HBk.of hll hk)
  have HWR := Lib.hid (fun W hc => wrong15_any A cap l W hll hc)
  have HWV := Lib.hid (fun W hc => refWeave_any A cap l W hl1 hk hc)
  have HNE : Hid (¬ (chk ss0 l 0).2 ≠ 0) := by
    intro h
    exact h (by rw [hk])
  have hcode : (chk ss0 l 0).2 = 0 := by rw [hk]
  rw [hcode] at HWR
  clear hlg hpg hc hw hp hwl hcode hk
  have hnb := wBl_le l
  have hnp := pts_len l (wBl l)
  go_enter Try.func10, Try.ntmps10
  go_wp2_with (go_at_call 44; refine halt_ ?_)
  refine Halt_.go ?_
  refine (lent18_any A cap l w hll HC.out).mono ?_
  rintro e w1 ⟨g, c1, rfl, hL, hb⟩
  have HL := Lib.hid hL
  have HB := Lib.hid hb
  have hs1 := hb.size
  have hrd := HWD.out.below hb
  clear hL hb
  have hm1 : ∀ u ∈ [Value.int .u64 77], u.oneCell' = true := by simp [Value.oneCell']
  have hw1 : ∀ u ∈ ws.map (Value.int .u64), u.oneCell' = true := by
    intro u hu
    obtain ⟨x, _, rfl⟩ := List.mem_map.1 hu
    rfl
  go_wp2_with (at_builtin; refine halt_ ?_)
  refine Halt_.go ?_
  refine wl_append_src _ rfl (.const (.slice none 0 0)) (.tmp 32) 86 rfl w1.heap.size 40 _ 1 8 info40' Try.underlying86 rfl (by decide) _ 0 [] rfl (World.ownsRow_nil w1 w1.heap.size 40 1) Aw ws.length cw (ws.map (Value.int .u64)) rfl (by simp) hrd.none_ hrd.cells hw1 (by omega) (by omega) (Nat.le_refl _) ?_
  intro A1 cw1 w1a hown1 hgrow1 hnil1
  simp only [Nat.zero_add, List.nil_append] at hown1
  have hb1 : Below w1.heap.size w1 w1a := (Below.refl _ _).grown hgrow1 (Nat.le_refl _) (fun k hk => by cases hk)
  go_wp2_with (at_builtin; refine halt_ ?_)
  refine Halt_.go ?_
  refine wl_append_src _ rfl (.tmp 33) (.tmp 34) 86 rfl w1.heap.size 40 _ 1 8 info40' Try.underlying86 rfl (by decide) _ ws.length (ws.map (Value.int .u64)) rfl (hown1.alloc _) _ 1 1 [.int .u64 77] rfl rfl (fun h => by cases h) (cells_of_new (heap_alloc_new _ _)) hm1 (by omega) (by omega) (by have := hb1.size; simp; omega) ?_
  intro A2 cw2 w2 hown2 hgrow2 hnil2
  obtain ⟨gw, capw, hv, hbg, hlt⟩ := hown2.form (by omega)
  cases hv
  have hcap := (own_cap hown2).1
  have hb2 : Below w1.heap.size w1 w2 := (hb1.alloc hb1.size _).grown hgrow2 (by have := hb1.size; simp; omega) (fun k hk => (hown1.lt k hk).1)
  have HLW : Hid (LentU w2 w1.heap.size gw cw2 ws) := ⟨hbg, hlt, hcap, hown2⟩
  have HL2 := Lib.hid (HL.out.below HL.out.2.1 hb2)
  have HB2 := Lib.hid (HB.out.trans (hb2.mono hs1))
  have HC2 := Lib.hid ((HC.out.below HB2.out).more HB2.out.size)
  have hs2 := hb2.size
  have i0 : (ws.length : Int) ≤ (cw2 : Int) := by omega
  have i00 : ws.length ≤ cw2 := by omega
  clear hown1 hgrow1 hnil1 hown2 hgrow2 hnil2 hb1 hb2 hrd hm1 hw1 HL HB hbg hlt hcap
  go_wp2_with (go_at_call 14; refine halt_ ?_)
  refine Halt_.go ?_
  refine (HWR.out w2 HC2.out).mono ?_
  rintro e w3 ⟨rfl, hb⟩
  have HL3 := Lib.hid (HL2.out.below HL2.out.2.1 hb)
  have HLW3 := Lib.hid (HLW.out.below hb)
  have HB3 := Lib.hid (HB2.out.trans (hb.mono HB2.out.size))
  have HC3 := Lib.hid ((HC2.out.below hb).more hb.size)
  have hs3 := hb.size
  clear hb HL2 HLW HB2 HC2 HWR
  have HAB := Lib.hid (fun (a b : Int) (W : World) (h : EvR W W.heap.size (some ⟨g, 0, none⟩) l) => ahead18_any (some ⟨g, 0, none⟩) c1 l a b W hl1 h)
  have HTB := Lib.hid (fun (a : Int) (W : World) (h : EvR W W.heap.size (some ⟨g, 0, none⟩) l) (h2 : RK .u64 W W.heap.size (some ⟨gw, 0, none⟩) ws) => told18_any (some ⟨g, 0, none⟩) c1 l (some ⟨gw, 0, none⟩) cw2 ws a W hl1 h h2 (by omega))
  go_wp2_with (go_at_call 49; refine halt_ ?_)
  refine Halt_.go ?_
  obtain ⟨w4, hw4⟩ : ∃ w4, w4 = w3.alloc (.cells #[.slice none 0 0, .slice none 0 0, .slice none 0 0, .slice none 0 0, .slice none 0 0, .slice none 0 0] 89) := ⟨_, rfl⟩
  have hb4 : Below w3.heap.size w3 w4 := by rw [hw4]; exact (Below.refl _ _).alloc (Nat.le_refl _) _
  rw [← hw4]
  have hC4 := (HC3.out.below hb4).more hb4.size
  refine (HWV.out w4 hC4).mono ?_
  rintro e w5 ⟨gW, rfl, hd, hb5⟩
  have hb35 := hb4.trans (hb5.mono hb4.size)
  obtain ⟨hi0, hhi0⟩ : ∃ n, n = w5.heap.size := ⟨_, rfl⟩
  rw [← hhi0] at hd
  have HS4 : Hid (LentV w5 w.heap.size g c1 l ∧ LentU w5 w1.heap.size gw cw2 ws ∧ Below w.heap.size w w5 ∧ EvR w5 w5.heap.size A l ∧ DR w5 hi0 gW l (wBl l) (wLk l) ∧ hi0 ≤ w5.heap.size) := ⟨HL3.out.below HL3.out.2.1 hb35, HLW3.out.below hb35, HB3.out.trans (hb35.mono HB3.out.size), (HC3.out.below hb35).more hb35.size, hd, by omega⟩
  clear hw4 hb4 hC4 hd hb5 hb35 hhi0 HL3 HLW3 HB3 HC3 HWV
  have hlp : ps.length ≤ 40 := by omega
  go_wp2
  go_loopw [11] (fun i wr => ∃ k : Nat, k ≤ ps.length ∧ i = .int .i64 k ∧ Hid (LentV wr w.heap.size g c1 l ∧ LentU wr w1.heap.size gw cw2 ws ∧ Below w.heap.size w wr ∧ EvR wr wr.heap.size A l ∧ DR wr hi0 gW l (wBl l) (wLk l) ∧ hi0 ≤ wr.heap.size)) (fun i _ => ps.length - (intOf i).toNat)
  case atStart => exact ⟨0, Nat.zero_le _, rfl, HS4⟩
  case round =>
    clear HS4
    obtain ⟨k, hkn, rfl, HS⟩ := hrel
    by_cases hlt : k < ps.length
    · obtain ⟨bp, op', hAp, hbp, hcp⟩ := HPS.out (by omega)
      obtain ⟨q0, q1⟩ := hcp k hlt
      subst hAp
      replace q0 := (HS.out.2.2.1.cell (p := ⟨bp, op' + k * 2, none⟩) hbp).trans q0
      replace q1 := (HS.out.2.2.1.cell (p := ⟨bp, op' + k * 2 + 1, none⟩) hbp).trans q1
      generalize ps[k] = pr at *
      obtain ⟨a, b⟩ := pr
      simp only at q0 q1
      have j1 : (0 : Int) ≤ (k : Int) := by omega
      have j2 : (k : Int) < (ps.length : Int) := by omega
      clear hcp
      go_wp2
      go_quiet (fail)
      have hq1 : Below wr.heap.size wr (wr.drewN nq) := bdrewN (Below.refl _ _) nq
      have HS5 : Hid (LentV (wr.drewN nq) w.heap.size g c1 l ∧ LentU (wr.drewN nq) w1.heap.size gw cw2 ws ∧ Below w.heap.size w (wr.drewN nq) ∧ EvR (wr.drewN nq) (wr.drewN nq).heap.size A l ∧ DR (wr.drewN nq) hi0 gW l (wBl l) (wLk l) ∧ hi0 ≤ (wr.drewN nq).heap.size) := ⟨HS.out.1.below HS.out.1.2.1 hq1, HS.out.2.1.below hq1, HS.out.2.2.1.trans (hq1.mono HS.out.2.2.1.size), (HS.out.2.2.2.1.below hq1).more hq1.size, HS.out.2.2.2.2.1.below (hq1.mono HS.out.2.2.2.2.2), Nat.le_trans HS.out.2.2.2.2.2 hq1.size⟩
      clear HS q0 q1 hq1
      generalize wr.drewN nq = w6 at *
      go_wp2_with (go_at_call 54; refine halt_ ?_)
      refine Halt_.go ?_
      refine (HAB.out a b w6 HS5.out.1.reads).mono ?_
      rintro e w7 ⟨r, rfl, hr, hb⟩
      have hr2 : r = ahL l (wBl l) (wLk l) a b := hr.elim (fun h => absurd h.1 HNE.out) (fun h => h.2)
      have HR := Lib.hid hr2
      have HS6 : Hid (LentV w7 w.heap.size g c1 l ∧ LentU w7 w1.heap.size gw cw2 ws ∧ Below w.heap.size w w7 ∧ EvR w7 w7.heap.size A l ∧ DR w7 hi0 gW l (wBl l) (wLk l) ∧ hi0 ≤ w7.heap.size) := ⟨HS5.out.1.below HS5.out.1.2.1 hb, HS5.out.2.1.below hb, HS5.out.2.2.1.trans (hb.mono HS5.out.2.2.1.size), (HS5.out.2.2.2.1.below hb).more hb.size, HS5.out.2.2.2.2.1.below (hb.mono HS5.out.2.2.2.2.2), Nat.le_trans HS5.out.2.2.2.2.2 hb.size⟩
      clear hr hr2 hb HS5
      have hHR := HR.out
      unfold ahL at hHR
      obtain ⟨T, hT⟩ : ∃ T, T = (decide (0 ≤ a) && decide (0 ≤ b) && decide (a < (l.length : Int)) && decide (b < (l.length : Int))) := ⟨_, rfl⟩
      rw [← hT] at hHR
      have HRT := Lib.hid hHR
      have HT := Lib.hid hT
      clear hHR hT HR
      go_upto_region 14 with fail
      go_cut [15] from 67 to 88 (fun s15 wx => s15 = .bool T ∧ wx = w7)
      case first =>
        by_cases ha0 : 0 ≤ a
        · by_cases hb0 : 0 ≤ b
          · by_cases hal : a < (l.length : Int)
            · by_cases hbl : b < (l.length : Int)
              · have HX : Hid (T = true) := by
                  show T = true
                  rw [HT.out, decide_eq_true ha0, decide_eq_true hb0, decide_eq_true hal, decide_eq_true hbl]; rfl
                go_wp2
                go_meet
                exact ⟨by rw [HX.out], rfl⟩
              · have HX : Hid (T = false) := by
                  show T = false
                  rw [HT.out, decide_eq_false hbl]; simp
                have hb1 : (l.length : Int) ≤ b := by omega
                go_wp2
                go_meet
                exact ⟨by rw [HX.out], rfl⟩
            · have HX : Hid (T = false) := by
                show T = false
                rw [HT.out, decide_eq_false hal]; simp
              have ha1 : (l.length : Int) ≤ a := by omega
              go_wp2
              go_meet
              exact ⟨by rw [HX.out], rfl⟩
          · have HX : Hid (T = false) := by
              show T = false
              rw [HT.out, decide_eq_false hb0]; simp
            have hb1 : b < 0 := by omega
            go_wp2
            go_meet
            exact ⟨by rw [HX.out], rfl⟩
        · have HX : Hid (T = false) := by
            show T = false
            rw [HT.out, decide_eq_false ha0]; rfl
          have ha1 : a < 0 := by omega
          go_wp2
          go_meet
          exact ⟨by rw [HX.out], rfl⟩
      case rest =>
        obtain ⟨rfl, hw7⟩ := hcut
        subst hw7
        go_upto_region 15 with fail
        go_cut [16] from 89 to 134 (fun s16 wx => s16 = .bool r ∧ ∃ n, wx = wc.drewN n)
        case first =>
          by_cases hTT : T = true
          · have HTT := Lib.hid hTT
            subst hTT
            have hin : (0 ≤ a ∧ 0 ≤ b) ∧ a < (l.length : Int) ∧ b < (l.length : Int) := by
              have := HT.out
              simp only [Eq.comm (a := true), Bool.and_eq_true, decide_eq_true_eq] at this
              exact ⟨this.1.1, this.1.2, this.2⟩
            obtain ⟨i, rfl⟩ := Int.eq_ofNat_of_zero_le hin.1.1
            obtain ⟨m, rfl⟩ := Int.eq_ofNat_of_zero_le hin.1.2
            have hi : i < l.length := by omega
            have hm : m < l.length := by omega
            have HRX : Hid (r = (decide (0 ≤ ofP l (wBl l) i) && decide (0 ≤ ofP l (wBl l) m) && aheadP l (wBl l) (wLk l) (ofP l (wBl l) i).toNat (ofP l (wBl l) m).toNat)) := HRT.out
            obtain ⟨Ao, co, ho1, ho2⟩ := HS6.out.2.2.2.2.1.of
            obtain ⟨go, rfl, hgo, hofi⟩ := ho2 i hi
            obtain ⟨go', hgo', _, hofm⟩ := ho2 m hm
            have hgg : go' = go := by injection hgo' with h; injection h with h; exact h.symm
            subst hgg
            obtain ⟨Ah, ch, gr, hh1, hh2⟩ := HS6.out.2.2.2.2.1.ah
            have HH2 := Lib.hid hh2
            have d1 : (i : Int) < (l.length : Int) := by omega
            have d2 : (m : Int) < (l.length : Int) := by omega
            have d3 : (0 : Int) ≤ (i : Int) := by omega
            have d4 : (0 : Int) ≤ (m : Int) := by omega
            clear hin ho2 hh2 hgo' hi hm
            rcases ofP_cases l (wBl l) i with hi1 | ⟨p, hp, hpN⟩
            · have HI1 := Lib.hid hi1
              rw [hi1] at hofi
              clear hi1
              have HX : Hid (r = false) := by
                show r = false
                rw [HRX.out, HI1.out]; rfl
              go_wp2
              go_quiet (fail)
              go_wp2
              go_meet
              exact ⟨by rw [HX.out], _, rfl⟩
            · have HP := Lib.hid hp
              rw [hp] at hofi
              have i1 : (0 : Int) ≤ (p : Int) := by omega
              clear hp
              rcases ofP_cases l (wBl l) m with hi1 | ⟨q, hq, hqN⟩
              · have HI1 := Lib.hid hi1
                rw [hi1] at hofm
                clear hi1
                have HX : Hid (r = false) := by
                  show r = false
                  rw [HRX.out, HI1.out]; simp
                go_wp2
                go_quiet (fail)
                go_wp2
                go_meet
                exact ⟨by rw [HX.out], _, rfl⟩
              · have HQ := Lib.hid hq
                rw [hq] at hofm
                have i2 : (0 : Int) ≤ (q : Int) := by omega
                clear hq
                have HX : Hid (r = aheadP l (wBl l) (wLk l) p q) := by
                  show r = _
                  rw [HRX.out, HP.out, HQ.out, decide_eq_true i1, decide_eq_true i2]; simp
                obtain ⟨⟨ga, rfl, _, hgr⟩, _, hcc⟩ := HH2.out p hpN
                have hcq := hcc q hqN
                have i3 : (p : Int) < ((pts l (wBl l)).length : Int) := by omega
                have i4 : (q : Int) < ((pts l (wBl l)).length : Int) := by omega
                clear hcc
                go_wp2
                go_quiet (fail)
                go_wp2
                go_meet
                exact ⟨by rw [HX.out], _, rfl⟩
          · have hTF : T = false := by simpa using hTT
            subst hTF
            clear hTT
            have HX : Hid (r = false) := by
              show r = false
              rw [HRT.out]; rfl
            go_wp2
            go_quiet (fail)
            go_wp2
            go_meet
            exact ⟨by rw [HX.out], _, rfl⟩
        case rest =>
          obtain ⟨rfl, n1, rfl⟩ := hcut
          have hq2 : Below wc.heap.size wc (wc.drewN n1) := bdrewN (Below.refl _ _) n1
          have HS7 : Hid (LentV (wc.drewN n1) w.heap.size g c1 l ∧ LentU (wc.drewN n1) w1.heap.size gw cw2 ws ∧ Below w.heap.size w (wc.drewN n1) ∧ EvR (wc.drewN n1) (wc.drewN n1).heap.size A l ∧ DR (wc.drewN n1) hi0 gW l (wBl l) (wLk l) ∧ hi0 ≤ (wc.drewN n1).heap.size) := ⟨HS6.out.1.below HS6.out.1.2.1 hq2, HS6.out.2.1.below hq2, HS6.out.2.2.1.trans (hq2.mono HS6.out.2.2.1.size), (HS6.out.2.2.2.1.below hq2).more hq2.size, HS6.out.2.2.2.2.1.below (hq2.mono HS6.out.2.2.2.2.2), Nat.le_trans HS6.out.2.2.2.2.2 hq2.size⟩
          clear HS6 hq2 HRT HT
          generalize wc.drewN n1 = w8 at *
          go_wp2_with (go_at_call 55; refine halt_ ?_)
          refine Halt_.go ?_
          refine (HTB.out a w8 HS7.out.1.reads HS7.out.2.1.reads).mono ?_
          rintro e w9 ⟨V, rfl, hv, hb⟩
          have hv2 : V = toldV l (wBl l) (wLk l) ws a := hv.elim (fun h => absurd h.1 HNE.out) (fun h => h.2)
          have HS8 : Hid (LentV w9 w.heap.size g c1 l ∧ LentU w9 w1.heap.size gw cw2 ws ∧ Below w.heap.size w w9 ∧ EvR w9 w9.heap.size A l ∧ DR w9 hi0 gW l (wBl l) (wLk l) ∧ hi0 ≤ w9.heap.size) := ⟨HS7.out.1.below HS7.out.1.2.1 hb, HS7.out.2.1.below hb, HS7.out.2.2.1.trans (hb.mono HS7.out.2.2.1.size), (HS7.out.2.2.2.1.below hb).more hb.size, HS7.out.2.2.2.2.1.below (hb.mono HS7.out.2.2.2.2.2), Nat.le_trans HS7.out.2.2.2.2.2 hb.size⟩
          clear hv hb HS7
          have hwx : RK .u64 w9 w9.heap.size Aw ws := (HWD.out.below HS8.out.2.2.1).more HS8.out.2.2.1.size
          have HRT := Lib.hid (refTold_any hi0 gW l (wBl l) (wLk l) A cap Aw cw ws a w9 HS8.out.2.2.2.2.1 HHB.out HS8.out.2.2.2.2.2 HS8.out.2.2.2.1 hl1 hwx (by omega))
          rw [← hv2] at HRT
          clear hv2 hwx
          obtain ⟨x, ok⟩ := V
          go_wp2_with (go_at_call 56; refine halt_ ?_)
          refine Halt_.go ?_
          refine HRT.out.mono ?_
          rintro e w10 ⟨rfl, hb⟩
          have HS9 : Hid (LentV w10 w.heap.size g c1 l ∧ LentU w10 w1.heap.size gw cw2 ws ∧ Below w.heap.size w w10 ∧ EvR w10 w10.heap.size A l ∧ DR w10 hi0 gW l (wBl l) (wLk l) ∧ hi0 ≤ w10.heap.size) := ⟨HS8.out.1.below HS8.out.1.2.1 hb, HS8.out.2.1.below hb, HS8.out.2.2.1.trans (hb.mono HS8.out.2.2.1.size), (HS8.out.2.2.2.1.below hb).more hb.size, HS8.out.2.2.2.2.1.below (hb.mono HS8.out.2.2.2.2.2), Nat.le_trans HS8.out.2.2.2.2.2 hb.size⟩
          clear hb HS8 HRT
          go_wp2
          go_roundw
          case rel => exact ⟨k + 1, hlt, by go_num, HS9⟩
          case measure => simp [intOf]; omega
    · have k4 : ¬ (k : Int) < (ps.length : Int) := by omega
      clear HAB HTB
      go_wp2_with (go_at_call 48; refine halt_ ?_)
      refine Halt_.go ?_
      refine (kept18_any A g c1 cap _ l wr hll HS.out.1 HS.out.2.2.2.1).mono ?_
      rintro e w8 ⟨rfl, m, rfl⟩
      have HLW8 : Hid (LentU (wr.drewN m) w1.heap.size gw cw2 ws) := HS.out.2.1.below (bdrewN (Below.refl _ _) m)
      have HB8 := Lib.hid (bdrewN HS.out.2.2.1 m)
      have HWW : Hid (RK .u64 (wr.drewN m) (wr.drewN m).heap.size Aw ws) := (HWD.out.below HB8.out).more HB8.out.size
      clear HS
      generalize wr.drewN m = w8 at *
      go_wp2_with (go_at_call 57; refine halt_ ?_)
      refine Halt_.go ?_
      refine (sameWords_any (some ⟨gw, 0, none⟩) Aw cw2 cw ws w8 HLW8.out.reads HWW.out (by omega)).mono ?_
      rintro e w9 ⟨rfl, m2, rfl⟩
      have HB9 := Lib.hid (bdrewN HB8.out m2)
      have hmk : (w8.drewN m2).cell? ⟨gw, ws.length, none⟩ = some (.int .u64 77) := HLW8.out.mark
      have i01 : (ws.length : Int) + 1 ≤ (cw2 : Int) := by have := HLW8.out.2.2.1; omega
      clear HLW8 HWW HB8
      generalize w8.drewN m2 = w9 at *
      go_wp2_with (go_at_call 43; refine halt_ ?_)
      refine Halt_.go ?_
      refine (known18_any _).mono ?_
      rintro e w10 ⟨rfl, hb⟩
      have HF := Lib.hid (HB9.out.trans (hb.mono HB9.out.size))
      clear hb HB9
      go_wp2
      go_ret
      exact ⟨rfl, HF.out⟩
end Go.Proofs.Ytjifpjfinffamaa
