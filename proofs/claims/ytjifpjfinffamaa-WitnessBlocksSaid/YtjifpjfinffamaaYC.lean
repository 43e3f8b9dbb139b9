/- Walk: witness.cut [60]. -/
import Derived.Test.YtjifpjfinffamaaYB
import Derived.BigRegion
import Derived.Handy
import Derived.Deep.Cut
namespace Go.Proofs.Ytjifpjfinffamaa
open Go.RowKit

set_option linter.unusedSimpArgs false in
set_option maxRecDepth 100000 in
set_option maxHeartbeats 12800000 in
theorem cut_any (A : Option Addr) (cap : Nat) (l : List Ev) (w : World) (hl : l.length ≤ 1099511627776) (hth : ∀ e ∈ l, 0 ≤ e.th ∧ e.th < 8) (hc : EvR w w.heap.size A l) :
    Calls Try.prog 60 #[.slice A l.length cap] w fun e w' => ∃ Ab cb hd Al cl, e = .returned (.tuple #[.slice Ab (cutF cs0 l 0).bl.length cb, .slice Al (cutF cs0 l 0).bl.length cl]) ∧ BLk w' w.heap.size Ab cb ((cutF cs0 l 0).bl.map finW) hd Al cl (cutF cs0 l 0).lk ∧ Below w.heap.size w w' := by
  have HC := Lib.hid hc
  have HTH := Lib.hid hth
  clear hc hth
  obtain ⟨R, hR⟩ : ∃ R, R = cutF cs0 l 0 := ⟨_, rfl⟩
  rw [← hR]
  have HR := Lib.hid hR
  clear hR
  have hst : CutI w (w.alloc (.map #[] 0)) 0 cs0 none 0 (fun _ => .slice none 0 0) none 0 := ⟨BLk.nil _ _, OpM.start w, (Below.refl _ _).alloc (Nat.le_refl _) _⟩
  have HS := Lib.hid hst
  clear hst
  have hmm := @run_makeMap Try.prog
  go_enter Try.func60, Try.ntmps60
  go_wp2
  go_loopw [17, 4, 5] (fun i va vl wr => ∃ (p : Nat) (c : CS) (Ab : Option Addr) (cb : Nat) (hd : Nat → Value) (Al : Option Addr) (cl m n : Nat), p ≤ l.length ∧ m ≤ p ∧ n ≤ p ∧ Hid (n = c.bl.length ∧ n = c.lk.length) ∧ i = .int .i64 p ∧ va = .slice Ab n cb ∧ vl = .slice Al n cl ∧ Hid (CutI w wr m c Ab cb hd Al cl) ∧ Hid (R = cutF c (l.drop p) p) ∧ Hid (COwn c p)) (fun i _ _ _ => l.length - (intOf i).toNat)
  case atStart => exact ⟨0, cs0, none, 0, _, none, 0, 0, 0, Nat.zero_le _, Nat.le_refl _, Nat.le_refl _, ⟨rfl, rfl⟩, rfl, rfl, rfl, HS, Lib.hid (by simpa using HR.out), COwn.start⟩
  case round =>
    obtain ⟨p, c, Ab, cb, hd, Al, cl, m, n, hp, hmp, hnp, HN, rfl, rfl, rfl, HI, HX, HO⟩ := hrel
    clear HR HS
    by_cases hlt : p < l.length
    · obtain ⟨eb, eo, e, hA, heb, he, hwd, e0, e1, e2, e3, e4, e5⟩ := HC.out.at_ HI.out.bel hlt
      subst hA
      have hst := HX.out
      rw [cutF_step he.out] at hst
      obtain ⟨ht0, ht8⟩ := HTH.out e (List.mem_of_getElem? he.out)
      have HO2 := Lib.hid (HO.out.step e)
      have hbl := HO.out
      obtain ⟨t, k, a, x, o, er⟩ := e
      simp only at e0 e1 e2 e3 e4 e5 ht0 ht8
      have HST := Lib.hid hst
      have HWD := Lib.hid hwd
      have i1 : (0 : Int) ≤ (p : Int) := by omega
      have i2 : (p : Int) < (l.length : Int) := by omega
      have hwl := HI.out.lt
      have HAL := Lib.hid ((Below.refl wr.heap.size wr).alloc (Nat.le_refl _) (.cells #[.int .i64 t, .int .i64 k, .int .u64 a, .int .u64 x, .bool o, .int .i64 er] 97))
      have HIb := Lib.hid (HI.out.keep HAL.out)
      clear hst he HX hwd hbl
      by_cases hk1 : k = 1
      · subst hk1
        have hx := HWD.out.2
        simp only at hx
        have hdiv : x.tdiv 2 = x / 2 := Int.tdiv_eq_ediv_of_nonneg hx.1
        have hw : IntKind.u64.wrap (x / 2) = x / 2 := by
          simp only [IntKind.wrap, IntKind.signed, IntKind.bits]
          simp
          omega
        obtain ⟨w2, hrun, hop, hg2⟩ := HIb.out.op.put ht0 ht8 (show m < maxLen by unfold maxLen; omega) (show n < 4611686018427387904 by omega)
        have hI2 := HIb.out.mapped hop hg2
        have b0 : w2.cell? ⟨wr.heap.size, 0, none⟩ = some (.int .i64 t) := hg2.cell (by rw [cell_of_row _ _ _ _ 97 (0, 0) (heap_alloc_new _ _)]; rfl) (fun e => absurd (Option.some.inj e) (show wr.heap.size ≠ w.heap.size by omega))
        have b1 : w2.cell? ⟨wr.heap.size, 1, none⟩ = some (.int .i64 1) := hg2.cell (by rw [cell_of_row _ _ _ _ 97 (0, 0) (heap_alloc_new _ _)]; rfl) (fun e => absurd (Option.some.inj e) (show wr.heap.size ≠ w.heap.size by omega))
        have b3 : w2.cell? ⟨wr.heap.size, 3, none⟩ = some (.int .u64 x) := hg2.cell (by rw [cell_of_row _ _ _ _ 97 (0, 0) (heap_alloc_new _ _)]; rfl) (fun e => absurd (Option.some.inj e) (show wr.heap.size ≠ w.heap.size by omega))
        have hsz := hg2.size
        have hsz2 : wr.heap.size + 1 ≤ w2.heap.size := by simpa using hsz
        have hrow : w2.ownsRow (w.heap.size + 1) 43 9 (.slice Ab n cb) n ((List.range (n * 9)).map (bF c.bl hd)) := by
          rw [HN.out.1]
          exact hI2.blk.hb.row
        have HROW := Lib.hid hrow
        have HI2 := Lib.hid hI2
        clear hop hg2 hI2 hsz hrow hx
        go_upto_region 9 with fail
        go_wp2_with (at_builtin; refine halt_ ?_)
        refine Halt_.go ?_
        refine wl_append1 _ (by rfl) (.tmp 30) (.tmp 39) 27 (by rfl) (w.heap.size + 1) 43 _ 9 104 info43 Try.underlying27 rfl (by decide) (.slice Ab n cb) n ((List.range (n * 9)).map (bF c.bl hd)) (by rfl) (HROW.out.alloc _) w2.heap.size 1 [.int .i64 t, .int .i64 5, .int .i64 (p : Int), .int .i64 (p : Int), .int .u64 (x / 2), .bool false, .int .i64 0, .slice none 0 0, .slice none 0 0] (by rfl) (heap_at _ _ _ rfl) rfl (by simp [Value.oneCell']) (by omega) (by omega) (by simp; omega) _ rfl ?_
        intro g cap2 w3 hown3 hgr0 hat0 hlt3
        have hgr := grown_trans (World.grownBy_alloc w2 _ _) hgr0
        obtain ⟨hd3, hP⟩ := HI2.out.pushed (begB ⟨t, 1, a, x, o, er⟩ p) rfl rfl (w2 := w3) (by dsimp only; rw [← HN.out.1]; exact hgr) (by dsimp only; rw [← HN.out.1]; exact hown3)
        have hsz3 := hgr.size
        have hlrow : w3.ownsRow (w.heap.size + 1) 3 1 (.slice Al n cl) n (ints (lks c.lk)) := by
          have := hP.blk.lk
          unfold OwnI at this
          rw [lks_len] at this
          dsimp only at this
          rw [← HN.out.2] at this
          exact this
        have HI3 := Lib.hid hP
        have HLROW := Lib.hid hlrow
        have hsz4 : wr.heap.size + 1 ≤ w3.heap.size := by omega
        clear hP hlrow hown3 hgr0 hat0 hlt3 hgr HI2 HROW b0 b1 b3 hsz3
        go_wp2_with (at_builtin; refine halt_ ?_)
        refine Halt_.go ?_
        refine wl_append1 _ (by rfl) (.tmp 41) (.tmp 43) 31 (by rfl) (w.heap.size + 1) 3 _ 1 8 info3 Try.underlying31 rfl (by decide) (.slice Al n cl) n (ints (lks c.lk)) (by rfl) (HLROW.out.alloc _) w3.heap.size 1 [.int .i64 (p : Int)] (by rfl) (heap_at _ _ _ rfl) rfl (by simp [Value.oneCell']) (by omega) (by omega) (by simp; omega) _ rfl ?_
        intro g5 cap5 w5 hown5 hgr0 hat0 hlt5
        have hgr := grown_trans (World.grownBy_alloc w3 _ _) hgr0
        have hl5 : (lks (c.lk ++ [p])).length = n + 1 := by rw [lks_len, List.length_append, ← HN.out.2]; rfl
        have hP := HI3.out.looked p (w2 := w5) (Al' := some ⟨g5, 0, none⟩) (cl' := cap5) (by dsimp only; rw [lks_len, ← HN.out.2]; exact hgr) (by
          unfold OwnI
          dsimp only
          rw [hl5, show ints (lks (c.lk ++ [p])) = ints (lks c.lk) ++ [.int .i64 (p : Int)] from by simp [ints, lks]]
          exact hown5)
        dsimp only at hP
        have hcs : cutS c p ⟨t, 1, a, x, o, er⟩ = ⟨c.bl ++ [begB ⟨t, 1, a, x, o, er⟩ p], c.lk ++ [p], fun x => if x = t then some n else c.op x⟩ := by
          unfold cutS
          rw [if_pos rfl]
          dsimp only
          rw [← HN.out.1]
        have hx2 := HST.out
        have ho2 := HO2.out
        rw [hcs] at hx2 ho2
        have HI5 := Lib.hid hP
        have HX2 := Lib.hid hx2
        have HO3 := Lib.hid ho2
        have HN2 : Hid (n + 1 = (c.bl ++ [begB ⟨t, 1, a, x, o, er⟩ p]).length ∧ n + 1 = (c.lk ++ [p]).length) := by
          have := HN.out
          exact ⟨by simp; omega, by simp; omega⟩
        clear hP hcs hx2 ho2 hown5 hgr0 hat0 hlt5 hgr hl5 HI3 HLROW HST HO2 HN HO HI HIb HAL
        go_wp2
        go_roundw
        case rel => exact ⟨p + 1, _, _, _, _, _, _, m + 1, n + 1, hlt, by omega, by omega, HN2, by go_num, rfl, rfl, HI5, HX2, HO3⟩
        case measure => simp [intOf]; omega
      · have k1 : (k == 1) = false := by simpa using hk1
        rcases HIb.out.op.look ht0 ht8 with ⟨hno, hrun⟩ | ⟨j, hso, hrun⟩
        · have hcs : cutS c p ⟨t, k, a, x, o, er⟩ = c := by
            unfold cutS
            rw [if_neg hk1]
            dsimp only
            rw [hno]
          have hx2 := HST.out
          have ho2 := HO2.out
          rw [hcs] at hx2 ho2
          have HX2 := Lib.hid hx2
          have HO3 := Lib.hid ho2
          clear hcs hx2 ho2 hno HST HO2 HO HI HAL hk1
          go_wp2
          go_roundw
          case rel => exact ⟨p + 1, c, Ab, cb, hd, Al, cl, m, n, hlt, by omega, by omega, HN, by go_num, rfl, rfl, HIb, HX2, HO3⟩
          case measure => simp [intOf]; omega
        · have hj : j < n := by rw [HN.out.1]; exact HO.out.own t j hso
          have hcs : cutS c p ⟨t, k, a, x, o, er⟩ = ⟨c.bl.set j (evB (blAt c.bl j) p ⟨t, k, a, x, o, er⟩), if k = 4 then c.lk.set j p else c.lk, if OverK k then fun y => if y = t then none else c.op y else c.op⟩ := by
            unfold cutS
            rw [if_neg hk1]
            dsimp only
            rw [hso]
          have hrd := HO.out.rd j
          have hwt := HO.out.wt j
          have hjb : j < c.bl.length := by rw [← HN.out.1]; exact hj
          obtain ⟨g, hAg, hgB, hcj, _, _⟩ := HI.out.blk.hb.reads.at_ (Below.refl _ _) hjb
          subst hAg
          have hgl := (HI.out.blk.hb.row.lt g rfl).1
          have f1 := HI.out.blk.hb.frozen (j * 9 + 1)
          have f3 := HI.out.blk.hb.frozen (j * 9 + 3)
          have f4 := HI.out.blk.hb.frozen (j * 9 + 4)
          have f6 := HI.out.blk.hb.frozen (j * 9 + 6)
          have c1 := hcj.c1
          have c3 := hcj.c3
          have c4 := hcj.c4
          have c6 := hcj.c6
          obtain ⟨b, hb⟩ : ∃ b, b = blAt c.bl j := ⟨_, rfl⟩
          have HBB := Lib.hid hb
          rw [← hb] at c1 c3 c4 c6 hcs hrd hwt
          have HI3 := Lib.hid (HI.out.set j 3 (.int .i64 (p : Int)) { b with last := p } hjb (by decide) (fun i r s hi => by rw [← hb]; rcases nine hi with rfl | rfl | rfl | rfl | rfl | rfl | rfl | rfl | rfl <;> simp [bcell]) (by rw [← hb]) (by rw [← hb]))
          have hx2 := HST.out
          have ho2 := HO2.out
          rw [hcs] at hx2 ho2
          have HX2 := Lib.hid hx2
          have HO3 := Lib.hid ho2
          have HCS := Lib.hid hcs
          have HJB := Lib.hid hjb
          have i3 : (0 : Int) ≤ (j : Int) := by omega
          have i4 : (j : Int) < (n : Int) := by omega
          clear hcs hx2 ho2 hso HST HO2 HO HAL hk1 hb hcj hjb

          by_cases k6 : k = 6
          · subst k6
            have hW := (((HI3.out.set2 HJB.out 1 (.int .i64 1) { b with last := p, kind := 1 } (by decide) (fun i r s hi => by rcases nine hi with rfl | rfl | rfl | rfl | rfl | rfl | rfl | rfl | rfl <;> simp [bcell]) rfl rfl).set2 HJB.out 4 (.int .u64 x) { b with last := p, kind := 1, num := x } (by decide) (fun i r s hi => by rcases nine hi with rfl | rfl | rfl | rfl | rfl | rfl | rfl | rfl | rfl <;> simp [bcell]) rfl rfl).keep ((Below.refl _ _).alloc (Nat.le_refl _) (.cells #[.int .i64 t, .int .i64 6, .int .u64 a, .int .u64 x, .bool o, .int .i64 er] 97))).drew
            obtain ⟨w5, hdel, hop, hg5⟩ := hW.op.drop ht0 ht8 0
            have hI5 := hW.mapped hop hg5
            have hev : evB b p ⟨t, 6, a, x, o, er⟩ = { b with last := p, kind := 1, num := x } := by simp [evB, clB]
            have hx2 := HX2.out
            have ho2 := HO3.out
            rw [hev, if_neg (by decide), if_pos (by decide)] at hx2 ho2
            have HX4 := Lib.hid hx2
            have HO4 := Lib.hid ho2
            have HI5 := Lib.hid hI5
            have HN2 : Hid (n = (c.bl.set j { b with last := p, kind := 1, num := x }).length ∧ n = c.lk.length) := by
              have := HN.out
              exact ⟨by simp; omega, this.2⟩
            clear hW hop hg5 hI5 hev hx2 ho2 HX2 HO3 HCS HI3 HI HIb HN
            go_wp2
            go_region
            go_wp2
            go_roundw
            case rel => exact ⟨p + 1, _, _, _, _, _, _, m, n, hlt, by omega, by omega, HN2, by go_num, rfl, rfl, HI5, HX4, HO4⟩
            case measure => simp [intOf]; omega
          · have k6' : (k == 6) = false := by simpa using k6
            by_cases k8 : k = 8
            · subst k8
              have hW := ((HI3.out.set2 HJB.out 1 (.int .i64 2) { b with last := p, kind := 2 } (by decide) (fun i r s hi => by rcases nine hi with rfl | rfl | rfl | rfl | rfl | rfl | rfl | rfl | rfl <;> simp [bcell]) rfl rfl).keep ((Below.refl _ _).alloc (Nat.le_refl _) (.cells #[.int .i64 t, .int .i64 8, .int .u64 a, .int .u64 x, .bool o, .int .i64 er] 97)))
              obtain ⟨w5, hdel, hop, hg5⟩ := hW.op.drop ht0 ht8 0
              have hI5 := hW.mapped hop hg5
              have hev : evB b p ⟨t, 8, a, x, o, er⟩ = { b with last := p, kind := 2 } := by simp [evB, clB]
              have hx2 := HX2.out
              have ho2 := HO3.out
              rw [hev, if_neg (by decide), if_pos (by decide)] at hx2 ho2
              have HX4 := Lib.hid hx2
              have HO4 := Lib.hid ho2
              have HI5 := Lib.hid hI5
              have HN2 : Hid (n = (c.bl.set j { b with last := p, kind := 2 }).length ∧ n = c.lk.length) := by
                have := HN.out
                exact ⟨by simp; omega, this.2⟩
              clear hW hop hg5 hI5 hev hx2 ho2 HX2 HO3 HCS HI3 HI HIb HN
              go_wp2
              go_roundw
              case rel => exact ⟨p + 1, _, _, _, _, _, _, m, n, hlt, by omega, by omega, HN2, by go_num, rfl, rfl, HI5, HX4, HO4⟩
              case measure => simp [intOf]; omega
            · have k8' : (k == 8) = false := by simpa using k8
              by_cases k9 : k = 9
              · subst k9
                have hW := (((HI3.out.set2 HJB.out 1 (.int .i64 3) { b with last := p, kind := 3 } (by decide) (fun i r s hi => by rcases nine hi with rfl | rfl | rfl | rfl | rfl | rfl | rfl | rfl | rfl <;> simp [bcell]) rfl rfl).set2 HJB.out 6 (.int .i64 er) { b with last := p, kind := 3, err := er } (by decide) (fun i r s hi => by rcases nine hi with rfl | rfl | rfl | rfl | rfl | rfl | rfl | rfl | rfl <;> simp [bcell]) rfl rfl).keep ((Below.refl _ _).alloc (Nat.le_refl _) (.cells #[.int .i64 t, .int .i64 9, .int .u64 a, .int .u64 x, .bool o, .int .i64 er] 97))).drew
                obtain ⟨w5, hdel, hop, hg5⟩ := hW.op.drop ht0 ht8 0
                have hI5 := hW.mapped hop hg5
                have hev : evB b p ⟨t, 9, a, x, o, er⟩ = { b with last := p, kind := 3, err := er } := by simp [evB, clB]
                have hx2 := HX2.out
                have ho2 := HO3.out
                rw [hev, if_neg (by decide), if_pos (by decide)] at hx2 ho2
                have HX4 := Lib.hid hx2
                have HO4 := Lib.hid ho2
                have HI5 := Lib.hid hI5
                have HN2 : Hid (n = (c.bl.set j { b with last := p, kind := 3, err := er }).length ∧ n = c.lk.length) := by
                  have := HN.out
                  exact ⟨by simp; omega, this.2⟩
                clear hW hop hg5 hI5 hev hx2 ho2 HX2 HO3 HCS HI3 HI HIb HN
                go_wp2
                go_region
                go_wp2
                go_roundw
                case rel => exact ⟨p + 1, _, _, _, _, _, _, m, n, hlt, by omega, by omega, HN2, by go_num, rfl, rfl, HI5, HX4, HO4⟩
                case measure => simp [intOf]; omega
              · have k9' : (k == 9) = false := by simpa using k9
                by_cases k7 : k = 7
                · subst k7
                  have hW := ((HI3.out.set2 HJB.out 1 (.int .i64 4) { b with last := p, kind := 4 } (by decide) (fun i r s hi => by rcases nine hi with rfl | rfl | rfl | rfl | rfl | rfl | rfl | rfl | rfl <;> simp [bcell]) rfl rfl).keep ((Below.refl _ _).alloc (Nat.le_refl _) (.cells #[.int .i64 t, .int .i64 7, .int .u64 a, .int .u64 x, .bool o, .int .i64 er] 97)))
                  obtain ⟨w5, hdel, hop, hg5⟩ := hW.op.drop ht0 ht8 0
                  have hI5 := hW.mapped hop hg5
                  have hev : evB b p ⟨t, 7, a, x, o, er⟩ = { b with last := p, kind := 4 } := by simp [evB, clB]
                  have hx2 := HX2.out
                  have ho2 := HO3.out
                  rw [hev, if_neg (by decide), if_pos (by decide)] at hx2 ho2
                  have HX4 := Lib.hid hx2
                  have HO4 := Lib.hid ho2
                  have HI5 := Lib.hid hI5
                  have HN2 : Hid (n = (c.bl.set j { b with last := p, kind := 4 }).length ∧ n = c.lk.length) := by
                    have := HN.out
                    exact ⟨by simp; omega, this.2⟩
                  clear hW hop hg5 hI5 hev hx2 ho2 HX2 HO3 HCS HI3 HI HIb HN
                  go_wp2
                  go_roundw
                  case rel => exact ⟨p + 1, _, _, _, _, _, _, m, n, hlt, by omega, by omega, HN2, by go_num, rfl, rfl, HI5, HX4, HO4⟩
                  case measure => simp [intOf]; omega
                · have k7' : (k == 7) = false := by simpa using k7
                  have hnov : ¬ OverK k := by rintro (q | q | q | q) <;> contradiction
                  have hev : evB b p ⟨t, k, a, x, o, er⟩ = stB { b with last := p } ⟨t, k, a, x, o, er⟩ := by unfold evB clB; rw [if_neg k6, if_neg k8, if_neg k9, if_neg k7]
                  have hW := HI3.out.keep ((Below.refl _ _).alloc (Nat.le_refl _) (.cells #[.int .i64 t, .int .i64 k, .int .u64 a, .int .u64 x, .bool o, .int .i64 er] 97))
                  have hin := inner_cut hW HJB.out ⟨t, k, a, x, o, er⟩ HWD.out (show b.rd.length ≤ 1099511627776 by omega) (show b.wt.length ≤ 1099511627776 by omega)
                  have hlkf := HI.out.blk.lk.form (by rw [lks_len, ← HN.out.2]; omega)
                  obtain ⟨gl, capl, hvl, hbl, hlgl⟩ := hlkf
                  have hAl : Al = some ⟨gl, 0, none⟩ := by injection hvl
                  subst hAl
                  have hgw : ¬ wr.heap.size = g := by
                    have := (HI.out.blk.hb.row.lt g rfl).2
                    omega
                  have hlw : ∀ i, i < 2 * c.bl.length → (hd i).ownBlock ≠ some wr.heap.size := fun i hi e => by
                    have := (HI.out.blk.hb.own i hi).lt _ e
                    omega
                  have hx2 := HX2.out
                  have ho2 := HO3.out
                  rw [hev] at hx2 ho2
                  have HX4 := Lib.hid hx2
                  have HO4 := Lib.hid ho2
                  have HIN := Lib.hid hin
                  have HLW := Lib.hid hlw
                  obtain ⟨s, hs⟩ : ∃ s, s = stB { b with last := p } ⟨t, k, a, x, o, er⟩ := ⟨_, rfl⟩
                  have HSS := Lib.hid hs
                  have HNOV := Lib.hid hnov
                  clear hev hW hin hvl hbl hx2 ho2 HX2 HO3 HCS HI3 HIb hlw hs hnov hlgl k6 k7 k8 k9
                  go_wp2_with (go_at_call 91; refine halt_ ?_)
                  refine Halt_.go ?_
                  refine HIN.out.mono ?_
                  rintro e' w3 ⟨rfl, ⟨hd3, hI3⟩, hsz3, hfr⟩
                  have hsz4 : wr.heap.size + 1 ≤ w3.heap.size := by simpa using hsz3
                  have hbox : w3.heap[wr.heap.size]? = some (.cells #[.int .i64 t, .int .i64 k, .int .u64 a, .int .u64 x, .bool o, .int .i64 er] 97 (0, 0)) :=
                    (hfr wr.heap.size (by simp) hgw HLW.out).trans (heap_at _ _ _ (by simp))
                  have q0 : w3.cell? ⟨wr.heap.size, 0, none⟩ = some (.int .i64 t) := by rw [cell_of_row _ _ _ _ 97 (0, 0) hbox]; rfl
                  have q1 : w3.cell? ⟨wr.heap.size, 1, none⟩ = some (.int .i64 k) := by rw [cell_of_row _ _ _ _ 97 (0, 0) hbox]; rfl
                  rw [← HSS.out] at hI3
                  have hcl : w3.cell? ⟨gl, j, none⟩ = some ((ints (lks c.lk))[j]'(by simp [ints, lks_len, ← HN.out.2]; exact hj)) := by
                    have := hI3.blk.lk.cellAt j (by simp only [lks_len, Nat.mul_one]; rw [← HN.out.2]; exact hj)
                    rw [this]
                    simp [ints, lks_len, ← HN.out.2, hj]
                  have hfl := hI3.blk.lk.frozenAt j
                  generalize (ints (lks c.lk))[j]'(by simp [ints, lks_len, ← HN.out.2]; exact hj) = vl at hcl
                  have HI4 := Lib.hid hI3
                  have HN2 : Hid (n = (c.bl.set j s).length ∧ n = c.lk.length) := by
                    have := HN.out
                    exact ⟨by simp; omega, this.2⟩
                  clear hI3 hsz3 hfr hbox HIN HLW
                  by_cases k4 : k = 4
                  · subst k4
                    have HI5 := Lib.hid (HI4.out.lookset j p)
                    have HN3 : Hid (n = (c.bl.set j s).length ∧ n = (c.lk.set j p).length) := by
                      have := HN2.out
                      exact ⟨this.1, by simp; omega⟩
                    have hx2 := HX4.out
                    have ho2 := HO4.out
                    rw [if_pos rfl, ← HSS.out, if_neg HNOV.out] at hx2 ho2
                    have HX5 := Lib.hid hx2
                    have HO5 := Lib.hid ho2
                    clear hx2 ho2 HX4 HO4 HI HI4 HN HN2 HNOV
                    go_wp2
                    go_roundw
                    case rel => exact ⟨p + 1, _, _, _, _, _, _, m, n, hlt, by omega, by omega, HN3, by go_num, rfl, rfl, HI5, HX5, HO5⟩
                    case measure => simp [intOf]; omega
                  · have k4' : (k == 4) = false := by simpa using k4
                    have hx2 := HX4.out
                    have ho2 := HO4.out
                    rw [if_neg k4, ← HSS.out, if_neg HNOV.out] at hx2 ho2
                    have HX5 := Lib.hid hx2
                    have HO5 := Lib.hid ho2
                    clear hx2 ho2 HX4 HO4 HI HN k4 HNOV
                    go_wp2
                    go_roundw
                    case rel => exact ⟨p + 1, _, _, _, _, _, _, m, n, hlt, by omega, by omega, HN2, by go_num, rfl, rfl, HI4, HX5, HO5⟩
                    case measure => simp [intOf]; omega
    · obtain rfl : p = l.length := by omega
      have hst := HX.out
      rw [cutF_end] at hst
      have hb0 := HI.out.blk.base' (Nat.le_succ _)
      rw [← dlB_zero c.bl] at hb0
      have HB0 := Lib.hid hb0
      have HBL := Lib.hid HI.out.bel
      have HR := Lib.hid hst
      clear hst hb0 HX HI HO
      go_wp2
      go_loopw [110] (fun i wr2 => ∃ q : Nat, q ≤ n ∧ i = .int .i64 q ∧ Hid (BLk wr2 w.heap.size Ab cb (dlB c.bl q) hd Al cl c.lk) ∧ Hid (Below w.heap.size w wr2)) (fun i _ => n - (intOf i).toNat)
      case atStart => exact ⟨0, Nat.zero_le _, rfl, HB0, HBL⟩
      case round =>
        clear HB0 HBL
        obtain ⟨q, hq, rfl, HB1, HBL1⟩ := hrel
        by_cases hqn : q < n
        · have hqb : q < c.bl.length := by rw [← HN.out.1]; exact hqn
          have hqd : q < (dlB c.bl q).length := by rw [dlB_len]; exact hqb
          obtain ⟨g, hAg, hgB, hcj, _, _⟩ := HB1.out.hb.reads.at_ (Below.refl _ _) hqd
          subst hAg
          have f5 := HB1.out.hb.frozen (q * 9 + 5)
          rw [dlB_at hqb] at hcj
          have c1 := hcj.c1
          have c5 := hcj.c5
          have hgl := (HB1.out.hb.row.lt g rfl).1
          have hs := HB1.out.set q 5 (.bool ((blAt c.bl q).wr && decide ((blAt c.bl q).kind = 1))) (finW (blAt c.bl q)) hqd (by decide) (fun i r s hi => by rw [dlB_at hqb]; rcases nine hi with rfl | rfl | rfl | rfl | rfl | rfl | rfl | rfl | rfl <;> simp [bcell, finW]) (by rw [dlB_at hqb]; rfl) (by rw [dlB_at hqb]; rfl)
          rw [dlB_step hqb] at hs
          have HBL2 := HBL1.out.setCell (p := ⟨g, q * 9 + 5, none⟩) hgl (.bool ((blAt c.bl q).wr && decide ((blAt c.bl q).kind = 1)))
          generalize blAt c.bl q = b at *
          obtain ⟨th, kd, f, la, nm, bw, er, rd, wt⟩ := b
          simp only at c1 c5 hs HBL2
          have i1 : (0 : Int) ≤ (q : Int) := by omega
          have i2 : (q : Int) < (n : Int) := by omega
          clear hcj hqb hqd hgl HB1 HBL1
          have hor : bw = false ∨ bw = true ∧ kd = 1 ∨ bw = true ∧ ¬ kd = 1 := by
            cases bw with
            | false => exact .inl rfl
            | true =>
              by_cases hk : kd = 1
              · exact .inr (.inl ⟨rfl, hk⟩)
              · exact .inr (.inr ⟨rfl, hk⟩)
          rcases hor with rfl | ⟨rfl, rfl⟩ | ⟨rfl, hk⟩
          · simp only [Bool.false_and] at hs HBL2
            have HS2 := Lib.hid hs
            have HBL3 := Lib.hid HBL2
            clear hs HBL2
            go_wp2
            go_roundw
            case rel => exact ⟨q + 1, hqn, by go_num, HS2, HBL3⟩
            case measure => simp [intOf]; omega
          · simp only [Bool.true_and, decide_true] at hs HBL2
            have HS2 := Lib.hid hs
            have HBL3 := Lib.hid HBL2
            clear hs HBL2
            go_wp2
            go_roundw
            case rel => exact ⟨q + 1, hqn, by go_num, HS2, HBL3⟩
            case measure => simp [intOf]; omega
          · simp only [Bool.true_and, decide_eq_false hk] at hs HBL2
            have hk' : (kd == 1) = false := by simpa using hk
            have HS2 := Lib.hid hs
            have HBL3 := Lib.hid HBL2
            clear hs HBL2 hk
            go_wp2
            go_roundw
            case rel => exact ⟨q + 1, hqn, by go_num, HS2, HBL3⟩
            case measure => simp [intOf]; omega
        · obtain rfl : q = n := by omega
          go_wp2
          go_ret2
          obtain ⟨h1, h2⟩ := HN.out
          have hr := HR.out
          have hb := HB1.out
          subst hr
          rw [h1, dlB_end] at hb
          refine ⟨Ab, cb, hd, Al, cl, ?_, hb, HBL1.out⟩
          rw [← h1]
          rfl
end Go.Proofs.Ytjifpjfinffamaa
