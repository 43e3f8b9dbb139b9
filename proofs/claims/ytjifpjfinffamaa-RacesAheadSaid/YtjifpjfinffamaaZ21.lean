/- Texts R19, laid together. -/
import Derived.Test.YtjifpjfinffamaaZ20
import Derived.Deep.DeepCutAuto
section
namespace Go.Proofs.Ytjifpjfinffamaa
open Go.RowKit
set_option linter.unusedSimpArgs false in
set_option maxRecDepth 100000 in
set_option maxHeartbeats 32000000 in
theorem refRac_any (hi gW : Nat) (l : List Ev) (bl : List Bl) (lk : List Nat) (A : Option Addr) (cap : Nat) (w : World) (h : DR w hi gW l bl lk) (hB : HBk l bl lk) (hhi : hi ≤ w.heap.size) (hc : EvR w w.heap.size A l) (hl : l.length ≤ 1000) :
    Calls Try.prog 51 #[.pointer (some ⟨gW, 0, none⟩), .slice A l.length cap] w fun e w' => ∃ Ar cr, e = .returned (.slice Ar (raL l bl lk).length cr) ∧ OwnR2 w' w.heap.size Ar cr (raL l bl lk) ∧ Below w.heap.size w w' := by
  have HW := Lib.hid h
  have HBK := Lib.hid hB
  have HACC := Lib.hid (refAcc_any hi gW l bl lk A cap w h hB hhi hc hl)
  have hlen := accL_len (l := l) (bl := bl) l.length
  have hof : ∀ a ∈ accL l bl l.length, a.ev < l.length ∧ 0 ≤ ofP l bl a.ev := fun a ha => by
    obtain ⟨h1, h2⟩ := accL_mem.1 ha
    exact ⟨h1, accAt_of hB.f h1 h2⟩
  have hraL : raL l bl lk = rr ac0 (fun a b => a.ad == b.ad && raceF l bl lk a b) Acc.ev (accL l bl l.length) (accL l bl l.length).length := rfl
  clear h hB hc
  generalize hRA : raL l bl lk = RA at *
  generalize accL l bl l.length = L at *
  obtain ⟨F, hF⟩ : ∃ F : Acc → Acc → Bool, F = (fun a b => a.ad == b.ad && raceF l bl lk a b) := ⟨_, rfl⟩
  rw [← hF] at hraL
  have HRA := Lib.hid hraL
  have HFF := Lib.hid hF
  have HOF := Lib.hid hof
  clear hof hraL hF hRA
  go_enter Try.func51, Try.ntmps51
  go_wp2_with (go_at_call 50; refine halt_ ?_)
  refine Halt_.go ?_
  refine HACC.out.mono ?_
  rintro e w2 ⟨Aa, ca, rfl, hoa, hb2⟩
  have HOA := Lib.hid hoa
  have HB2 := Lib.hid hb2
  have hs2 := hb2.size
  clear hoa hb2 HACC
  go_wp2
  go_loopw [7, 6] (fun i vo wr => ∃ (i0 q : Nat) (Ar : Option Addr) (cr : Nat), i0 ≤ L.length ∧ i = .int .i64 i0 ∧ vo = .slice Ar q cr ∧ q ≤ i0 * 1000 ∧ Hid (q = (rr ac0 F Acc.ev L i0).length) ∧ Hid (OwnR2 wr w2.heap.size Ar cr (rr ac0 F Acc.ev L i0)) ∧ Hid (Below w2.heap.size w2 wr)) (fun i _ _ => L.length - (intOf i).toNat)
  case atStart => exact ⟨0, 0, none, 0, Nat.zero_le _, rfl, rfl, by omega, rfl, World.ownsRow_nil _ _ _ _, Below.refl _ _⟩
  case round =>
    obtain ⟨i0, q, Ar, cr, hi0, rfl, rfl, hq, HQ, HO, HBL⟩ := hrel
    by_cases hlt : i0 < L.length
    · generalize wr = wM at *
      have HQ0 : Hid (q = (rr ac0 F Acc.ev L i0 ++ rc ac0 F Acc.ev L i0 0).length) := by
        show _ = _
        rw [HQ.out]
        simp [rc]
      have HO0 : Hid (OwnR2 wM w2.heap.size Ar cr (rr ac0 F Acc.ev L i0 ++ rc ac0 F Acc.ev L i0 0)) := by
        show OwnR2 _ _ _ _ _
        have := HO.out
        simpa [rc] using this
      obtain ⟨d4, hd4⟩ : ∃ d, d = L.length - (i0 + 1) := ⟨_, rfl⟩
      have HD4 := Lib.hid hd4
      have hdb : i0 + 1 + d4 = L.length := by omega
      have HDB := Lib.hid hdb
      have hdb2 : d4 ≤ 1000 := by omega
      clear hd4 HQ HO
      clear hdb
      go_wp2
      go_loopw [8, 6] (fun i vo w5 => ∃ (j q4 : Nat) (Ar : Option Addr) (cr : Nat), j ≤ d4 ∧ i = .int .i64 ((i0 + 1 + j : Nat) : Int) ∧ vo = .slice Ar q4 cr ∧ q4 ≤ q + j ∧ Hid (q4 = (rr ac0 F Acc.ev L i0 ++ rc ac0 F Acc.ev L i0 j).length) ∧ Hid (OwnR2 w5 w2.heap.size Ar cr (rr ac0 F Acc.ev L i0 ++ rc ac0 F Acc.ev L i0 j)) ∧ Hid (Below w2.heap.size w2 w5)) (fun i _ _ => L.length - (intOf i).toNat)
      case atStart => exact ⟨0, q, Ar, cr, Nat.zero_le _, by go_num, rfl, by omega, HQ0, HO0, HBL⟩
      case round =>
        clear HQ0 HO0 HBL
        obtain ⟨j, q4, Ar, cr, hj, rfl, rfl, hq4, HQ4, HO4, HB4⟩ := hrel
        by_cases hltj : j < d4
        · obtain ⟨a, ha⟩ : ∃ a, L[i0]? = some a := ⟨_, List.getElem?_eq_getElem hlt⟩
          obtain ⟨b, hb⟩ : ∃ b, L[i0 + 1 + j]? = some b := ⟨_, List.getElem?_eq_getElem (by have := HDB.out; omega)⟩
          have HAT := Lib.hid ha
          have HBT := Lib.hid hb
          obtain ⟨ga, capa, hva, hba, hla⟩ := World.ownsRow.form HOA.out (by omega)
          have hAa : Aa = some ⟨ga, 0, none⟩ := by injection hva
          subst hAa
          have hce : ∀ (j : Nat) v, w2.cell? ⟨ga, j, none⟩ = some v → wr.cell? ⟨ga, j, none⟩ = some v := fun j v hv => (HB4.out.cell (p := ⟨ga, j, none⟩) hla).trans hv
          obtain ⟨c0, c1, c2, c3, c4⟩ := HOA.out.at_ ha
          obtain ⟨d0, d1, d2, d3, d5⟩ := HOA.out.at_ hb
          replace c0 := hce _ _ c0
          replace c1 := hce _ _ c1
          replace c2 := hce _ _ c2
          replace c3 := hce _ _ c3
          replace c4 := hce _ _ c4
          replace d0 := hce _ _ d0
          replace d1 := hce _ _ d1
          replace d2 := hce _ _ d2
          replace d3 := hce _ _ d3
          replace d5 := hce _ _ d5
          obtain ⟨k, hk⟩ : ∃ k, k = i0 + 1 + j := ⟨_, rfl⟩
          rw [← hk] at d0 d1 d2 d3 d5
          have HK := Lib.hid hk
          have i1 : (0 : Int) ≤ (i0 : Int) := by omega
          have i2 : (i0 : Int) < (L.length : Int) := by omega
          have i3 : (0 : Int) ≤ (k : Int) := by omega
          have i4 : (k : Int) < (L.length : Int) := by have := HDB.out; omega
          rw [← hk]
          clear hce hva ha hb hk
          have hs5 := HB4.out.size
          have hga : ga < wr.heap.size := by omega
          go_wp2
          go_cut [9, 10] from 30 to 37 (fun s9 s10 wx => ∃ gA gB : Nat, s9 = .pointer (some ⟨gA, 0, none⟩) ∧ s10 = .pointer (some ⟨gB, 0, none⟩) ∧ Hid (Below wr.heap.size wr wx) ∧ Hid (wx.heap[gA]? = some (.cells (acell a).toArray 83 (0, 0)) ∧ wx.heap[gB]? = some (.cells (acell b).toArray 83 (0, 0))))
          case first =>
            go_region
            · go_wp2_with fail
              go_meet
              have hb := ((((Below.refl wr.heap.size wr).alloc (Nat.le_refl _) (.cells #[.int .i64 (a.ev : Int), .int .i64 a.th, .int .u64 a.ad, .bool a.wr, .bool a.pl] 83)).alloc (by simp) (.cells #[.int .i64 (b.ev : Int), .int .i64 b.th, .int .u64 b.ad, .bool b.wr, .bool b.pl] 83)).drew)
              exact ⟨wr.heap.size, wr.heap.size + 1, rfl, rfl, hb, (Below.heap_alloc _ _ _ (by simp)).trans (heap_at _ _ _ rfl), heap_at _ _ _ (by simp)⟩
            · go_wp2_with fail
              go_meet
              have hb := ((((Below.refl wr.heap.size wr).alloc (Nat.le_refl _) (.cells #[.int .i64 (b.ev : Int), .int .i64 b.th, .int .u64 b.ad, .bool b.wr, .bool b.pl] 83)).alloc (by simp) (.cells #[.int .i64 (a.ev : Int), .int .i64 a.th, .int .u64 a.ad, .bool a.wr, .bool a.pl] 83)).drew)
              exact ⟨wr.heap.size + 1, wr.heap.size, rfl, rfl, hb, heap_at _ _ _ (by simp), (Below.heap_alloc _ _ _ (by simp)).trans (heap_at _ _ _ rfl)⟩
          case rest =>
            obtain ⟨gA, gB, rfl, rfl, HBX, HAB⟩ := hcut
            have hma := HOF.out a (List.mem_of_getElem? HAT.out)
            have hmb := HOF.out b (List.mem_of_getElem? HBT.out)
            have hpl := (ofP_lt hma.2).1
            have hpl2 := (ofP_lt hmb.2).1
            obtain ⟨p, hp⟩ : ∃ p : Nat, ofP l bl a.ev = (p : Int) := ⟨(ofP l bl a.ev).toNat, by have := hma.2; omega⟩
            obtain ⟨pb, hpb⟩ : ∃ p : Nat, ofP l bl b.ev = (p : Int) := ⟨(ofP l bl b.ev).toNat, by have := hmb.2; omega⟩
            have hpN : p < (pts l bl).length := by rw [hp] at hpl; simpa using hpl
            have hpbN : pb < (pts l bl).length := by rw [hpb] at hpl2; simpa using hpl2
            have hF : Hid (F a b = (a.ad == b.ad && (!(a.th == b.th) && (a.pl || b.pl) && (a.wr || b.wr) && !aheadP l bl lk p pb && !aheadP l bl lk pb p))) := by
              show _ = _
              rw [HFF.out]
              dsimp only
              unfold raceF
              rw [hp, hpb, Int.toNat_natCast, Int.toNat_natCast]
            have hga2 : L.getD i0 ac0 = a := by simp [List.getD, HAT.out]
            have hgb2 : L.getD (i0 + 1 + j) ac0 = b := by simp [List.getD, HBT.out]
            have HNO : Hid (F a b = false → rc ac0 F Acc.ev L i0 (j + 1) = rc ac0 F Acc.ev L i0 j) := by
              intro hf
              show (if F (L.getD i0 ac0) (L.getD (i0 + 1 + j) ac0) = true then _ else _) = _
              rw [hga2, hgb2, hf]
              rfl
            have HYES : Hid (F a b = true → rc ac0 F Acc.ev L i0 (j + 1) = rc ac0 F Acc.ev L i0 j ++ [(a.ev, b.ev)]) := by
              intro hf
              show (if F (L.getD i0 ac0) (L.getD (i0 + 1 + j) ac0) = true then _ else _) = _
              rw [hga2, hgb2, hf]
              rfl
            have HBW := Lib.hid (HB4.out.trans (HBX.out.mono hs5))
            have HOX : Hid (OwnR2 wc w2.heap.size Ar cr (rr ac0 F Acc.ev L i0 ++ rc ac0 F Acc.ev L i0 j)) := own_keep HO4.out fun g hg => HBX.out.block g (World.ownsRow.lt HO4.out g hg).2
            have HWX := Lib.hid (HW.out.below (((HB2.out.trans (HBW.out.mono hs2))).mono hhi))
            obtain ⟨A3, q3, hc3, hr3⟩ := HWX.out.of
            obtain ⟨g3, hA3, hz3, hofa⟩ := hr3 a.ev hma.1
            obtain ⟨g3', hA3', hz3', hofb⟩ := hr3 b.ev hmb.1
            subst hA3
            injection hA3' with hA3'
            injection hA3' with hA3'
            subst hA3'
            rw [hp] at hofa
            rw [hpb] at hofb
            obtain ⟨A4, q5, gr, hc4, hr4⟩ := HWX.out.ah
            obtain ⟨⟨g4, hA4, hz4, hrow⟩, hz5, hcl⟩ := hr4 p hpN
            obtain ⟨⟨g4', hA4', hz4', hrow'⟩, hz5', hcl'⟩ := hr4 pb hpbN
            subst hA4
            injection hA4' with hA4'
            injection hA4' with hA4'
            subst hA4'
            have hap := hcl pb hpbN
            have hap' := hcl' p hpN
            have x0 : wc.cell? ⟨gA, 0, none⟩ = some (.int .i64 (a.ev : Int)) := by rw [cell_of_row _ _ 0 _ 83 (0, 0) HAB.out.1]; rfl
            have x1 : wc.cell? ⟨gA, 1, none⟩ = some (.int .i64 a.th) := by rw [cell_of_row _ _ 1 _ 83 (0, 0) HAB.out.1]; rfl
            have x2 : wc.cell? ⟨gA, 2, none⟩ = some (.int .u64 a.ad) := by rw [cell_of_row _ _ 2 _ 83 (0, 0) HAB.out.1]; rfl
            have x3 : wc.cell? ⟨gA, 3, none⟩ = some (.bool a.wr) := by rw [cell_of_row _ _ 3 _ 83 (0, 0) HAB.out.1]; rfl
            have x4 : wc.cell? ⟨gA, 4, none⟩ = some (.bool a.pl) := by rw [cell_of_row _ _ 4 _ 83 (0, 0) HAB.out.1]; rfl
            have y0 : wc.cell? ⟨gB, 0, none⟩ = some (.int .i64 (b.ev : Int)) := by rw [cell_of_row _ _ 0 _ 83 (0, 0) HAB.out.2]; rfl
            have y1 : wc.cell? ⟨gB, 1, none⟩ = some (.int .i64 b.th) := by rw [cell_of_row _ _ 1 _ 83 (0, 0) HAB.out.2]; rfl
            have y2 : wc.cell? ⟨gB, 2, none⟩ = some (.int .u64 b.ad) := by rw [cell_of_row _ _ 2 _ 83 (0, 0) HAB.out.2]; rfl
            have y3 : wc.cell? ⟨gB, 3, none⟩ = some (.bool b.wr) := by rw [cell_of_row _ _ 3 _ 83 (0, 0) HAB.out.2]; rfl
            have y4 : wc.cell? ⟨gB, 4, none⟩ = some (.bool b.pl) := by rw [cell_of_row _ _ 4 _ 83 (0, 0) HAB.out.2]; rfl
            have i6 : (0 : Int) ≤ (a.ev : Int) := by omega
            have i7 : (a.ev : Int) < (l.length : Int) := by have := hma.1; omega
            have i8 : (0 : Int) ≤ (b.ev : Int) := by omega
            have i9 : (b.ev : Int) < (l.length : Int) := by have := hmb.1; omega
            have j6 : (0 : Int) ≤ (p : Int) := by omega
            have j7 : (p : Int) < ((pts l bl).length : Int) := by omega
            have j8 : (0 : Int) ≤ (pb : Int) := by omega
            have j9 : (pb : Int) < ((pts l bl).length : Int) := by omega
            have HKE : Hid ((k : Int) + 1 = ((i0 + 1 + (j + 1) : Nat) : Int)) := by
              show (k : Int) + 1 = _
              rw [HK.out]
              omega
            have hms : L.length - (k + 1) < L.length - k := by have := HDB.out; have := HK.out; omega
            have HMS := Lib.hid hms
            clear hma hmb hpl hpl2 hp hpb hga2 hgb2 hr3 hz3 hz3' hr4 hz4 hz5 hz4' hz5' hcl hcl' hms c0 c1 c2 c3 c4 d0 d1 d2 d3 d5
            generalize hu : aheadP l bl lk p pb = u at *
            generalize hv : aheadP l bl lk pb p = v at *
            generalize (pts l bl).length = N at *
            clear hu hv
            go_wp2
            go_quiet (fail)
            have HO7 : Hid (OwnR2 (wc.drewN nq) w2.heap.size Ar cr (rr ac0 F Acc.ev L i0 ++ rc ac0 F Acc.ev L i0 j)) := own_keep HOX.out fun _ _ => rfl
            have HB7 := Lib.hid (bdrewN HBW.out nq)
            have hs7 : wr.heap.size ≤ (wc.drewN nq).heap.size := HBX.out.size
            have HAB7 : Hid ((wc.drewN nq).heap[gA]? = some (.cells (acell a).toArray 83 (0, 0)) ∧ (wc.drewN nq).heap[gB]? = some (.cells (acell b).toArray 83 (0, 0))) := HAB
            have hcs : (∀ q : Addr, (wc.drewN nq).cell? q = wc.cell? q) := fun _ => rfl
            rw [← hcs] at x0 x1 x2 x3 x4 y0 y1 y2 y3 y4 hc4 hrow hrow' hap hap'
            clear hcs hc3 hofa hofb HOX HBW HBX HAB
            generalize wc.drewN nq = w7 at *
            by_cases had : a.ad = b.ad
            · have HAD : Hid ((a.ad == b.ad) = true) := by
                show (a.ad == b.ad) = true
                simpa using had
              rw [← had] at y2
              clear had
              by_cases hth : a.th = b.th
              · have HTH : Hid ((a.th == b.th) = true) := by
                  show (a.th == b.th) = true
                  simpa using hth
                rw [← hth] at y1
                clear hth
                go_wp2
                have hf : F a b = false := by rw [hF.out]; simp [HTH.out]
                have hrc := HNO.out hf
                have HQ5 : Hid (q4 = (rr ac0 F Acc.ev L i0 ++ rc ac0 F Acc.ev L i0 (j + 1)).length) := by rw [hrc]; exact HQ4
                have HO5 : Hid (OwnR2 w7 w2.heap.size Ar cr (rr ac0 F Acc.ev L i0 ++ rc ac0 F Acc.ev L i0 (j + 1))) := by rw [hrc]; exact HO7
                clear hrc hf
                go_roundw
                case rel => exact ⟨j + 1, q4, Ar, cr, hltj, by rw [HKE.out], rfl, by omega, HQ5, HO5, HB7⟩
                case measure => simp [intOf]; have := HMS.out; omega
              · have HTH : Hid ((a.th == b.th) = false) := by
                  show (a.th == b.th) = false
                  simpa using hth
                have k1 : (a.th != b.th) = true := by simpa using hth
                clear hth
                rcases Bool.eq_false_or_eq_true a.pl with pa | pa
                · rw [pa] at x4
                  have HPA := Lib.hid pa
                  clear pa
                  rcases Bool.eq_false_or_eq_true a.wr with wa | wa
                  · rw [wa] at x3
                    have HWA := Lib.hid wa
                    clear wa
                    rcases Bool.eq_false_or_eq_true u with hu | hu
                    · subst hu
                      go_wp2
                      have hf : F a b = false := by rw [hF.out]; simp 
                      have hrc := HNO.out hf
                      have HQ5 : Hid (q4 = (rr ac0 F Acc.ev L i0 ++ rc ac0 F Acc.ev L i0 (j + 1)).length) := by rw [hrc]; exact HQ4
                      have HO5 : Hid (OwnR2 w7 w2.heap.size Ar cr (rr ac0 F Acc.ev L i0 ++ rc ac0 F Acc.ev L i0 (j + 1))) := by rw [hrc]; exact HO7
                      clear hrc hf
                      go_roundw
                      case rel => exact ⟨j + 1, q4, Ar, cr, hltj, by rw [HKE.out], rfl, by omega, HQ5, HO5, HB7⟩
                      case measure => simp [intOf]; have := HMS.out; omega
                    · subst hu
                      rcases Bool.eq_false_or_eq_true v with hv | hv
                      · subst hv
                        go_wp2
                        have hf : F a b = false := by rw [hF.out]; simp 
                        have hrc := HNO.out hf
                        have HQ5 : Hid (q4 = (rr ac0 F Acc.ev L i0 ++ rc ac0 F Acc.ev L i0 (j + 1)).length) := by rw [hrc]; exact HQ4
                        have HO5 : Hid (OwnR2 w7 w2.heap.size Ar cr (rr ac0 F Acc.ev L i0 ++ rc ac0 F Acc.ev L i0 (j + 1))) := by rw [hrc]; exact HO7
                        clear hrc hf
                        go_roundw
                        case rel => exact ⟨j + 1, q4, Ar, cr, hltj, by rw [HKE.out], rfl, by omega, HQ5, HO5, HB7⟩
                        case measure => simp [intOf]; have := HMS.out; omega
                      · subst hv
                        have hf : F a b = true := by rw [hF.out]; simp [HAD.out, HTH.out, HPA.out, HWA.out]
                        have hrc := HYES.out hf
                        have hrow9 : w7.ownsRow w2.heap.size 85 2 (.slice Ar q4 cr) q4 ((rr ac0 F Acc.ev L i0 ++ rc ac0 F Acc.ev L i0 j).flatMap rcell) := by rw [HQ4.out]; exact HO7
                        have HRW := Lib.hid hrow9
                        have HRC := Lib.hid hrc
                        clear hf hrc hrow9
                        go_upto_region 12 with fail
                        go_wp2_with (at_builtin; refine halt_ ?_)
                        refine Halt_.go ?_
                        refine wl_append_two _ (by rfl) (.tmp 108) (.tmp 114) 73 (by rfl) w2.heap.size 85 _ 2 16 info85 Try.underlying73 rfl (by decide) (.slice Ar q4 cr) q4 ((rr ac0 F Acc.ev L i0 ++ rc ac0 F Acc.ev L i0 j).flatMap rcell) (by rfl) (HRW.out.alloc _) w7.heap.size 1 [.int .i64 (a.ev : Int), .int .i64 (b.ev : Int)] (by rfl) (heap_at _ _ _ rfl) rfl (by simp [Value.oneCell']) (by omega) (by omega) (by simp; omega) ?_
                        intro g9 cap2 w10 hown hlt10 htwo
                        have hgr := grown_trans (World.grownBy_alloc w7 _ _) (two_grown htwo)
                        have hOA : OwnR2 w10 w2.heap.size (some ⟨g9, 0, none⟩) cap2 ((rr ac0 F Acc.ev L i0 ++ rc ac0 F Acc.ev L i0 j) ++ [(a.ev, b.ev)]) := by
                          unfold OwnR2
                          rw [List.length_append, List.flatMap_append, ← HQ4.out]
                          exact hown
                        rw [List.append_assoc, ← HRC.out] at hOA
                        have HO5 := Lib.hid hOA
                        have HQ5 : Hid (q4 + 1 = (rr ac0 F Acc.ev L i0 ++ rc ac0 F Acc.ev L i0 (j + 1)).length) := by
                          have := HQ4.out
                          show q4 + 1 = _
                          rw [HRC.out, ← List.append_assoc, List.length_append, ← this]
                          rfl
                        have HB5 := Lib.hid (HB7.out.grown hgr (by omega) (fun j hj => (World.ownsRow.lt HRW.out j hj).1))
                        clear hown hlt10 htwo hgr hOA
                        go_wp2
                        go_roundw
                        case rel => exact ⟨j + 1, q4 + 1, some ⟨g9, 0, none⟩, cap2, hltj, by rw [HKE.out], rfl, by omega, HQ5, HO5, HB5⟩
                        case measure => simp [intOf]; have := HMS.out; omega
                  · rw [wa] at x3
                    have HWA := Lib.hid wa
                    clear wa
                    rcases Bool.eq_false_or_eq_true b.wr with wb | wb
                    · rw [wb] at y3
                      have HWB := Lib.hid wb
                      clear wb
                      rcases Bool.eq_false_or_eq_true u with hu | hu
                      · subst hu
                        go_wp2
                        have hf : F a b = false := by rw [hF.out]; simp 
                        have hrc := HNO.out hf
                        have HQ5 : Hid (q4 = (rr ac0 F Acc.ev L i0 ++ rc ac0 F Acc.ev L i0 (j + 1)).length) := by rw [hrc]; exact HQ4
                        have HO5 : Hid (OwnR2 w7 w2.heap.size Ar cr (rr ac0 F Acc.ev L i0 ++ rc ac0 F Acc.ev L i0 (j + 1))) := by rw [hrc]; exact HO7
                        clear hrc hf
                        go_roundw
                        case rel => exact ⟨j + 1, q4, Ar, cr, hltj, by rw [HKE.out], rfl, by omega, HQ5, HO5, HB7⟩
                        case measure => simp [intOf]; have := HMS.out; omega
                      · subst hu
                        rcases Bool.eq_false_or_eq_true v with hv | hv
                        · subst hv
                          go_wp2
                          have hf : F a b = false := by rw [hF.out]; simp 
                          have hrc := HNO.out hf
                          have HQ5 : Hid (q4 = (rr ac0 F Acc.ev L i0 ++ rc ac0 F Acc.ev L i0 (j + 1)).length) := by rw [hrc]; exact HQ4
                          have HO5 : Hid (OwnR2 w7 w2.heap.size Ar cr (rr ac0 F Acc.ev L i0 ++ rc ac0 F Acc.ev L i0 (j + 1))) := by rw [hrc]; exact HO7
                          clear hrc hf
                          go_roundw
                          case rel => exact ⟨j + 1, q4, Ar, cr, hltj, by rw [HKE.out], rfl, by omega, HQ5, HO5, HB7⟩
                          case measure => simp [intOf]; have := HMS.out; omega
                        · subst hv
                          have hf : F a b = true := by rw [hF.out]; simp [HAD.out, HTH.out, HPA.out, HWA.out, HWB.out]
                          have hrc := HYES.out hf
                          have hrow9 : w7.ownsRow w2.heap.size 85 2 (.slice Ar q4 cr) q4 ((rr ac0 F Acc.ev L i0 ++ rc ac0 F Acc.ev L i0 j).flatMap rcell) := by rw [HQ4.out]; exact HO7
                          have HRW := Lib.hid hrow9
                          have HRC := Lib.hid hrc
                          clear hf hrc hrow9
                          go_upto_region 12 with fail
                          go_wp2_with (at_builtin; refine halt_ ?_)
                          refine Halt_.go ?_
                          refine wl_append_two _ (by rfl) (.tmp 108) (.tmp 114) 73 (by rfl) w2.heap.size 85 _ 2 16 info85 Try.underlying73 rfl (by decide) (.slice Ar q4 cr) q4 ((rr ac0 F Acc.ev L i0 ++ rc ac0 F Acc.ev L i0 j).flatMap rcell) (by rfl) (HRW.out.alloc _) w7.heap.size 1 [.int .i64 (a.ev : Int), .int .i64 (b.ev : Int)] (by rfl) (heap_at _ _ _ rfl) rfl (by simp [Value.oneCell']) (by omega) (by omega) (by simp; omega) ?_
                          intro g9 cap2 w10 hown hlt10 htwo
                          have hgr := grown_trans (World.grownBy_alloc w7 _ _) (two_grown htwo)
                          have hOA : OwnR2 w10 w2.heap.size (some ⟨g9, 0, none⟩) cap2 ((rr ac0 F Acc.ev L i0 ++ rc ac0 F Acc.ev L i0 j) ++ [(a.ev, b.ev)]) := by
                            unfold OwnR2
                            rw [List.length_append, List.flatMap_append, ← HQ4.out]
                            exact hown
                          rw [List.append_assoc, ← HRC.out] at hOA
                          have HO5 := Lib.hid hOA
                          have HQ5 : Hid (q4 + 1 = (rr ac0 F Acc.ev L i0 ++ rc ac0 F Acc.ev L i0 (j + 1)).length) := by
                            have := HQ4.out
                            show q4 + 1 = _
                            rw [HRC.out, ← List.append_assoc, List.length_append, ← this]
                            rfl
                          have HB5 := Lib.hid (HB7.out.grown hgr (by omega) (fun j hj => (World.ownsRow.lt HRW.out j hj).1))
                          clear hown hlt10 htwo hgr hOA
                          go_wp2
                          go_roundw
                          case rel => exact ⟨j + 1, q4 + 1, some ⟨g9, 0, none⟩, cap2, hltj, by rw [HKE.out], rfl, by omega, HQ5, HO5, HB5⟩
                          case measure => simp [intOf]; have := HMS.out; omega
                    · rw [wb] at y3
                      have HWB := Lib.hid wb
                      clear wb
                      go_wp2
                      have hf : F a b = false := by rw [hF.out]; simp [HWA.out, HWB.out]
                      have hrc := HNO.out hf
                      have HQ5 : Hid (q4 = (rr ac0 F Acc.ev L i0 ++ rc ac0 F Acc.ev L i0 (j + 1)).length) := by rw [hrc]; exact HQ4
                      have HO5 : Hid (OwnR2 w7 w2.heap.size Ar cr (rr ac0 F Acc.ev L i0 ++ rc ac0 F Acc.ev L i0 (j + 1))) := by rw [hrc]; exact HO7
                      clear hrc hf
                      go_roundw
                      case rel => exact ⟨j + 1, q4, Ar, cr, hltj, by rw [HKE.out], rfl, by omega, HQ5, HO5, HB7⟩
                      case measure => simp [intOf]; have := HMS.out; omega
                · rw [pa] at x4
                  have HPA := Lib.hid pa
                  clear pa
                  rcases Bool.eq_false_or_eq_true b.pl with pb' | pb'
                  · rw [pb'] at y4
                    have HPB := Lib.hid pb'
                    clear pb'
                    rcases Bool.eq_false_or_eq_true a.wr with wa | wa
                    · rw [wa] at x3
                      have HWA := Lib.hid wa
                      clear wa
                      rcases Bool.eq_false_or_eq_true u with hu | hu
                      · subst hu
                        go_wp2
                        have hf : F a b = false := by rw [hF.out]; simp 
                        have hrc := HNO.out hf
                        have HQ5 : Hid (q4 = (rr ac0 F Acc.ev L i0 ++ rc ac0 F Acc.ev L i0 (j + 1)).length) := by rw [hrc]; exact HQ4
                        have HO5 : Hid (OwnR2 w7 w2.heap.size Ar cr (rr ac0 F Acc.ev L i0 ++ rc ac0 F Acc.ev L i0 (j + 1))) := by rw [hrc]; exact HO7
                        clear hrc hf
                        go_roundw
                        case rel => exact ⟨j + 1, q4, Ar, cr, hltj, by rw [HKE.out], rfl, by omega, HQ5, HO5, HB7⟩
                        case measure => simp [intOf]; have := HMS.out; omega
                      · subst hu
                        rcases Bool.eq_false_or_eq_true v with hv | hv
                        · subst hv
                          go_wp2
                          have hf : F a b = false := by rw [hF.out]; simp 
                          have hrc := HNO.out hf
                          have HQ5 : Hid (q4 = (rr ac0 F Acc.ev L i0 ++ rc ac0 F Acc.ev L i0 (j + 1)).length) := by rw [hrc]; exact HQ4
                          have HO5 : Hid (OwnR2 w7 w2.heap.size Ar cr (rr ac0 F Acc.ev L i0 ++ rc ac0 F Acc.ev L i0 (j + 1))) := by rw [hrc]; exact HO7
                          clear hrc hf
                          go_roundw
                          case rel => exact ⟨j + 1, q4, Ar, cr, hltj, by rw [HKE.out], rfl, by omega, HQ5, HO5, HB7⟩
                          case measure => simp [intOf]; have := HMS.out; omega
                        · subst hv
                          have hf : F a b = true := by rw [hF.out]; simp [HAD.out, HTH.out, HPA.out, HPB.out, HWA.out]
                          have hrc := HYES.out hf
                          have hrow9 : w7.ownsRow w2.heap.size 85 2 (.slice Ar q4 cr) q4 ((rr ac0 F Acc.ev L i0 ++ rc ac0 F Acc.ev L i0 j).flatMap rcell) := by rw [HQ4.out]; exact HO7
                          have HRW := Lib.hid hrow9
                          have HRC := Lib.hid hrc
                          clear hf hrc hrow9
                          go_upto_region 12 with fail
                          go_wp2_with (at_builtin; refine halt_ ?_)
                          refine Halt_.go ?_
                          refine wl_append_two _ (by rfl) (.tmp 108) (.tmp 114) 73 (by rfl) w2.heap.size 85 _ 2 16 info85 Try.underlying73 rfl (by decide) (.slice Ar q4 cr) q4 ((rr ac0 F Acc.ev L i0 ++ rc ac0 F Acc.ev L i0 j).flatMap rcell) (by rfl) (HRW.out.alloc _) w7.heap.size 1 [.int .i64 (a.ev : Int), .int .i64 (b.ev : Int)] (by rfl) (heap_at _ _ _ rfl) rfl (by simp [Value.oneCell']) (by omega) (by omega) (by simp; omega) ?_
                          intro g9 cap2 w10 hown hlt10 htwo
                          have hgr := grown_trans (World.grownBy_alloc w7 _ _) (two_grown htwo)
                          have hOA : OwnR2 w10 w2.heap.size (some ⟨g9, 0, none⟩) cap2 ((rr ac0 F Acc.ev L i0 ++ rc ac0 F Acc.ev L i0 j) ++ [(a.ev, b.ev)]) := by
                            unfold OwnR2
                            rw [List.length_append, List.flatMap_append, ← HQ4.out]
                            exact hown
                          rw [List.append_assoc, ← HRC.out] at hOA
                          have HO5 := Lib.hid hOA
                          have HQ5 : Hid (q4 + 1 = (rr ac0 F Acc.ev L i0 ++ rc ac0 F Acc.ev L i0 (j + 1)).length) := by
                            have := HQ4.out
                            show q4 + 1 = _
                            rw [HRC.out, ← List.append_assoc, List.length_append, ← this]
                            rfl
                          have HB5 := Lib.hid (HB7.out.grown hgr (by omega) (fun j hj => (World.ownsRow.lt HRW.out j hj).1))
                          clear hown hlt10 htwo hgr hOA
                          go_wp2
                          go_roundw
                          case rel => exact ⟨j + 1, q4 + 1, some ⟨g9, 0, none⟩, cap2, hltj, by rw [HKE.out], rfl, by omega, HQ5, HO5, HB5⟩
                          case measure => simp [intOf]; have := HMS.out; omega
                    · rw [wa] at x3
                      have HWA := Lib.hid wa
                      clear wa
                      rcases Bool.eq_false_or_eq_true b.wr with wb | wb
                      · rw [wb] at y3
                        have HWB := Lib.hid wb
                        clear wb
                        rcases Bool.eq_false_or_eq_true u with hu | hu
                        · subst hu
                          go_wp2
                          have hf : F a b = false := by rw [hF.out]; simp 
                          have hrc := HNO.out hf
                          have HQ5 : Hid (q4 = (rr ac0 F Acc.ev L i0 ++ rc ac0 F Acc.ev L i0 (j + 1)).length) := by rw [hrc]; exact HQ4
                          have HO5 : Hid (OwnR2 w7 w2.heap.size Ar cr (rr ac0 F Acc.ev L i0 ++ rc ac0 F Acc.ev L i0 (j + 1))) := by rw [hrc]; exact HO7
                          clear hrc hf
                          go_roundw
                          case rel => exact ⟨j + 1, q4, Ar, cr, hltj, by rw [HKE.out], rfl, by omega, HQ5, HO5, HB7⟩
                          case measure => simp [intOf]; have := HMS.out; omega
                        · subst hu
                          rcases Bool.eq_false_or_eq_true v with hv | hv
                          · subst hv
                            go_wp2
                            have hf : F a b = false := by rw [hF.out]; simp 
                            have hrc := HNO.out hf
                            have HQ5 : Hid (q4 = (rr ac0 F Acc.ev L i0 ++ rc ac0 F Acc.ev L i0 (j + 1)).length) := by rw [hrc]; exact HQ4
                            have HO5 : Hid (OwnR2 w7 w2.heap.size Ar cr (rr ac0 F Acc.ev L i0 ++ rc ac0 F Acc.ev L i0 (j + 1))) := by rw [hrc]; exact HO7
                            clear hrc hf
                            go_roundw
                            case rel => exact ⟨j + 1, q4, Ar, cr, hltj, by rw [HKE.out], rfl, by omega, HQ5, HO5, HB7⟩
                            case measure => simp [intOf]; have := HMS.out; omega
                          · subst hv
                            have hf : F a b = true := by rw [hF.out]; simp [HAD.out, HTH.out, HPA.out, HPB.out, HWA.out, HWB.out]
                            have hrc := HYES.out hf
                            have hrow9 : w7.ownsRow w2.heap.size 85 2 (.slice Ar q4 cr) q4 ((rr ac0 F Acc.ev L i0 ++ rc ac0 F Acc.ev L i0 j).flatMap rcell) := by rw [HQ4.out]; exact HO7
                            have HRW := Lib.hid hrow9
                            have HRC := Lib.hid hrc
                            clear hf hrc hrow9
                            go_upto_region 12 with fail
                            go_wp2_with (at_builtin; refine halt_ ?_)
                            refine Halt_.go ?_
                            refine wl_append_two _ (by rfl) (.tmp 108) (.tmp 114) 73 (by rfl) w2.heap.size 85 _ 2 16 info85 Try.underlying73 rfl (by decide) (.slice Ar q4 cr) q4 ((rr ac0 F Acc.ev L i0 ++ rc ac0 F Acc.ev L i0 j).flatMap rcell) (by rfl) (HRW.out.alloc _) w7.heap.size 1 [.int .i64 (a.ev : Int), .int .i64 (b.ev : Int)] (by rfl) (heap_at _ _ _ rfl) rfl (by simp [Value.oneCell']) (by omega) (by omega) (by simp; omega) ?_
                            intro g9 cap2 w10 hown hlt10 htwo
                            have hgr := grown_trans (World.grownBy_alloc w7 _ _) (two_grown htwo)
                            have hOA : OwnR2 w10 w2.heap.size (some ⟨g9, 0, none⟩) cap2 ((rr ac0 F Acc.ev L i0 ++ rc ac0 F Acc.ev L i0 j) ++ [(a.ev, b.ev)]) := by
                              unfold OwnR2
                              rw [List.length_append, List.flatMap_append, ← HQ4.out]
                              exact hown
                            rw [List.append_assoc, ← HRC.out] at hOA
                            have HO5 := Lib.hid hOA
                            have HQ5 : Hid (q4 + 1 = (rr ac0 F Acc.ev L i0 ++ rc ac0 F Acc.ev L i0 (j + 1)).length) := by
                              have := HQ4.out
                              show q4 + 1 = _
                              rw [HRC.out, ← List.append_assoc, List.length_append, ← this]
                              rfl
                            have HB5 := Lib.hid (HB7.out.grown hgr (by omega) (fun j hj => (World.ownsRow.lt HRW.out j hj).1))
                            clear hown hlt10 htwo hgr hOA
                            go_wp2
                            go_roundw
                            case rel => exact ⟨j + 1, q4 + 1, some ⟨g9, 0, none⟩, cap2, hltj, by rw [HKE.out], rfl, by omega, HQ5, HO5, HB5⟩
                            case measure => simp [intOf]; have := HMS.out; omega
                      · rw [wb] at y3
                        have HWB := Lib.hid wb
                        clear wb
                        go_wp2
                        have hf : F a b = false := by rw [hF.out]; simp [HWA.out, HWB.out]
                        have hrc := HNO.out hf
                        have HQ5 : Hid (q4 = (rr ac0 F Acc.ev L i0 ++ rc ac0 F Acc.ev L i0 (j + 1)).length) := by rw [hrc]; exact HQ4
                        have HO5 : Hid (OwnR2 w7 w2.heap.size Ar cr (rr ac0 F Acc.ev L i0 ++ rc ac0 F Acc.ev L i0 (j + 1))) := by rw [hrc]; exact HO7
                        clear hrc hf
                        go_roundw
                        case rel => exact ⟨j + 1, q4, Ar, cr, hltj, by rw [HKE.out], rfl, by omega, HQ5, HO5, HB7⟩
                        case measure => simp [intOf]; have := HMS.out; omega
                  · rw [pb'] at y4
                    have HPB := Lib.hid pb'
                    clear pb'
                    go_wp2
                    have hf : F a b = false := by rw [hF.out]; simp [HPA.out, HPB.out]
                    have hrc := HNO.out hf
                    have HQ5 : Hid (q4 = (rr ac0 F Acc.ev L i0 ++ rc ac0 F Acc.ev L i0 (j + 1)).length) := by rw [hrc]; exact HQ4
                    have HO5 : Hid (OwnR2 w7 w2.heap.size Ar cr (rr ac0 F Acc.ev L i0 ++ rc ac0 F Acc.ev L i0 (j + 1))) := by rw [hrc]; exact HO7
                    clear hrc hf
                    go_roundw
                    case rel => exact ⟨j + 1, q4, Ar, cr, hltj, by rw [HKE.out], rfl, by omega, HQ5, HO5, HB7⟩
                    case measure => simp [intOf]; have := HMS.out; omega
            · have HAD : Hid ((a.ad == b.ad) = false) := by
                show (a.ad == b.ad) = false
                simpa using had
              have k0 : (a.ad == b.ad) = false := HAD.out
              clear had
              go_wp2
              have hf : F a b = false := by rw [hF.out]; simp [HAD.out]
              have hrc := HNO.out hf
              have HQ5 : Hid (q4 = (rr ac0 F Acc.ev L i0 ++ rc ac0 F Acc.ev L i0 (j + 1)).length) := by rw [hrc]; exact HQ4
              have HO5 : Hid (OwnR2 w7 w2.heap.size Ar cr (rr ac0 F Acc.ev L i0 ++ rc ac0 F Acc.ev L i0 (j + 1))) := by rw [hrc]; exact HO7
              clear hrc hf
              go_roundw
              case rel => exact ⟨j + 1, q4, Ar, cr, hltj, by rw [HKE.out], rfl, by omega, HQ5, HO5, HB7⟩
              case measure => simp [intOf]; have := HMS.out; omega
        · have hj0 : j = d4 := by omega
          have hrs : rr ac0 F Acc.ev L (i0 + 1) = rr ac0 F Acc.ev L i0 ++ rc ac0 F Acc.ev L i0 d4 := by
            rw [HD4.out]
            rfl
          rw [hj0, ← hrs] at HQ4 HO4
          have k4 : ¬ ((i0 + 1 + j : Nat) : Int) < (L.length : Int) := by have := HDB.out; omega
          have hq5 : q4 ≤ (i0 + 1) * 1000 := by omega
          clear hj0 hrs
          go_wp2
          go_roundw
          case rel => exact ⟨i0 + 1, q4, Ar, cr, hlt, by go_num, rfl, hq5, HQ4, HO4, HB4⟩
          case measure => simp [intOf]; omega
    · have hi1 : i0 = L.length := by omega
      rw [hi1, ← HRA.out] at HQ HO
      have k4 : ¬ (i0 : Int) < (L.length : Int) := by omega
      have HFIN : Hid (OwnR2 wr w.heap.size Ar cr RA ∧ Below w.heap.size w wr) := ⟨own_base HO.out hs2, HB2.out.trans (HBL.out.mono hs2)⟩
      clear hi1
      go_wp2
      go_ret
      exact ⟨Ar, cr, by rw [HQ.out]; rfl, HFIN.out.1, HFIN.out.2⟩
end Go.Proofs.Ytjifpjfinffamaa
end
