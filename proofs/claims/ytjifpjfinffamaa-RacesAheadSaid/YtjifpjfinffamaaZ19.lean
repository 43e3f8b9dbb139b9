/- Texts R9, laid together. -/
import Derived.Test.YtjifpjfinffamaaZ16
import Derived.Test.YtjifpjfinffamaaZ18
import Derived.BigRegion
import Derived.BigQuiet
import Derived.Handy
import Derived.Deep.CutRange
section
namespace Go.Proofs.Ytjifpjfinffamaa
open Go.RowKit Go.Maps
theorem blocks_ok (A : Option Addr) (cap : Nat) (l : List Ev) (w : World) (hl : l.length ≤ 1099511627776) (hk : chk ss0 l 0 = (-1, 0)) (hc : EvR w w.heap.size A l) :
    Calls Try.prog 15 #[.slice A l.length cap] w fun e w' => ∃ Ab cb hd, e = .returned (.tuple #[.slice Ab (wBl l).length cb, .int .i64 0]) ∧ HB w' w.heap.size Ab (wBl l).length cb (wBl l) hd ∧ Below w.heap.size w w' := by
  refine (blocks_any A cap l w hl hc).mono ?_
  rintro e w' ⟨h1 | ⟨_, Ab, cb, hd, rfl, h2⟩, h3⟩
  · exact absurd (by rw [hk]) h1.1
  · exact ⟨Ab, cb, hd, rfl, h2, h3⟩
theorem order_ok (A : Option Addr) (cap : Nat) (l : List Ev) (w : World) (hl : l.length ≤ 1099511627776) (hk : chk ss0 l 0 = (-1, 0)) (hc : EvR w w.heap.size A l) :
    Calls Try.prog 16 #[.slice A l.length cap] w fun e w' => ∃ Ao co, e = .returned (.tuple #[.slice Ao (ordS (wBl l) (wLk l) (wBl l).length).length co, .int .i64 0]) ∧ OwnI w' w.heap.size Ao co (lks (ordS (wBl l) (wLk l) (wBl l).length)) ∧ Below w.heap.size w w' := by
  refine (wOrder_any A cap l w hl hc).mono ?_
  rintro e w' ⟨h1 | ⟨_, Ao, co, rfl, h2⟩, h3⟩
  · exact absurd (by rw [hk]) h1.1
  · exact ⟨Ao, co, rfl, h2, h3⟩
set_option linter.unusedSimpArgs false in
set_option maxRecDepth 100000 in
theorem up0_any (d t : Nat) (pV pO : Value) (w : World) (hd : w.cell? ⟨d, t, none⟩ = some (.int .i64 0)) (ht : t < 8) :
    Calls Try.prog 107 #[.int .i64 (t : Int), .int .i64 0, .pointer (some ⟨d, 0, none⟩), pV, pO] w fun e w' => e = .returned (.tuple #[]) ∧ w' = w := by
  have i1 : (0 : Int) ≤ (t : Int) := by omega
  have i2 : (t : Int) < 8 := by omega
  go_enter Try.func107, Try.ntmps107
  go_wp2
  go_loopw [] (fun wr => wr = w) (fun _ => 0)
  case atStart => rfl
  case round =>
    subst hrel
    go_wp2
    go_end0
    exact ⟨rfl, rfl⟩
set_option linter.unusedSimpArgs false in
set_option maxRecDepth 100000 in
set_option maxHeartbeats 64000000 in
theorem weave_any (A : Option Addr) (cap : Nat) (l : List Ev) (w : World) (hl : l.length ≤ 1048576) (hk : chk ss0 l 0 = (-1, 0)) (hc : EvR w w.heap.size A l) :
    Calls Try.prog 85 #[.slice A l.length cap] w fun e w' => e = .returned (.pointer (some ⟨w.heap.size + 1, 0, none⟩)) ∧ Below w.heap.size w w' ∧ ∃ Ap cp Ab cb hd sn tn, WebR w' w'.heap.size (w.heap.size + 1) w.heap.size Ap cp Ab cb hd l (wBl l) (wLk l) sn tn := by
  have HC := Lib.hid hc
  have HF := Lib.hid (wBl_facts (show l.length ≤ 1099511627776 by omega) hk)
  have HBK := Lib.hid (fun W (h : EvR W W.heap.size A l) => blocks_ok A cap l W (by omega) hk h)
  have HOR := Lib.hid (fun W (h : EvR W W.heap.size A l) => order_ok A cap l W (by omega) hk h)
  have HOV := Lib.hid (fun j (hj : j < (wBl l).length) => over_kind (l := l) hj)
  have HTH := Lib.hid (chk_fm l 0 ss0 hk)
  have HPT := Lib.hid (wLk_part l)
  have hnb := wBl_le l
  have hmk := Go.run_make_row' (P := Try.prog) 31 3 (.int .i64 0) 8 Try.underlying31 info3 rfl .i64 .i64 l.length (by omega) (by omega)
  have hmm := @run_makeMap Try.prog
  clear hk hc
  generalize wBl l = bl at *
  generalize wLk l = lk at *
  have h0 := W0F.start w l.length (by unfold maxLen; omega)
  have H0 := Lib.hid h0
  clear h0
  go_enter Try.func85, Try.ntmps85
  go_wp2
  generalize (((w.alloc (.cells (madeCells #[.int .i64 0] l.length) 3)).alloc (.cells #[.slice none 0 0, .slice (some ⟨w.heap.size, 0, none⟩) l.length l.length, .slice none 0 0] 134)).alloc (.cells #[.pointer (some ⟨w.heap.size + 1, 0, none⟩)] 130)) = W0 at *
  clear hmk
  have hvar := H0.out.var
  have hsz0 := H0.out.sz
  have hblk := HBK.out W0.drew ((HC.out.below (H0.out.bel.drew)).more (show w.heap.size ≤ W0.drew.heap.size by show w.heap.size ≤ W0.heap.size; omega))
  have hSt : W0.drew.cell? ⟨w.heap.size + 2, 0, none⟩ = some (.pointer (some ⟨w.heap.size + 1, 0, none⟩)) ∧ Below W0.heap.size W0 W0.drew := ⟨hvar, (Below.refl _ _).drew⟩
  have hkeep : ∀ w' : World, Below W0.heap.size W0 w' → (w'.cell? ⟨w.heap.size + 2, 0, none⟩ = some (.pointer (some ⟨w.heap.size + 1, 0, none⟩)) ∧ Below W0.heap.size W0 w') := fun w' h => ⟨(h.cell (p := ⟨w.heap.size + 2, 0, none⟩) (by show w.heap.size + 2 < _; omega)).trans hvar, h⟩
  refine wp_region_C (S := fun W => W.cell? ⟨w.heap.size + 2, 0, none⟩ = some (.pointer (some ⟨w.heap.size + 1, 0, none⟩)) ∧ Below W0.heap.size W0 W) 8 (by kernel_rfl) hSt (fun hHeld => ?_)
  refine wpAnyC_take [8] (i := 0) (oi := _) (v := ?v2_0) rfl (by kernel_rfl) (by kernel_rfl) (by kernel_rfl) (by kernel_rfl) (fun _ _ _ h => h) (Or.inl ⟨by rfl, ?hy2_0⟩) (by assumption) ?rest2_0
  case hy2_0 => ((intro w hSw; (try dsimp only at hSw); go_simp); (try with_reducible rfl))
  (try simp only [Act.put, Array.getInternal_eq_getElem, List.getElem_toArray, List.getElem_cons_zero, List.getElem_cons_succ, List.setIfInBounds_toArray, List.set_cons_zero, List.set_cons_succ])
  refine wpAnyC_take [8] (i := 1) (oi := _) (v := ?v2_1) rfl (by kernel_rfl) (by kernel_rfl) (by kernel_rfl) (by kernel_rfl) (fun _ _ _ h => h) (Or.inl ⟨by rfl, ?hy2_1⟩) (by assumption) ?rest2_1
  case hy2_1 => ((intro w hSw; (try dsimp only at hSw); go_simp); (try with_reducible rfl))
  (try simp only [Act.put, Array.getInternal_eq_getElem, List.getElem_toArray, List.getElem_cons_zero, List.getElem_cons_succ, List.setIfInBounds_toArray, List.set_cons_zero, List.set_cons_succ])
  refine wpAnyC_one (i := 2) (o := _) (by kernel_rfl) rfl (fun K hK => ?_)
  go_simp
  refine hblk.mono ?_
  rintro e w1 ⟨Ab, cb, hd, rfl, hH1, hb1⟩
  have hb1' : Below W0.heap.size W0 w1 := ((Below.refl _ _).drew).trans hb1
  have hH1 : HB w1 (w.heap.size + 3) Ab bl.length cb bl hd := by rw [← hsz0]; exact hH1
  have hc1 := (H0.out.web.kept (hb1'.block (w.heap.size + 1) (by omega))).cell (j := 2) (by omega)
  rw [show webF none 0 0 (some ⟨w.heap.size, 0, none⟩) l.length l.length (.slice none 0 0) 2 = .slice none 0 0 from rfl] at hc1
  refine hK.out _ _ (hkeep _ hb1') (fun hHeld => ?_)
  clear hK K
  (try simp only [Act.put, Array.getInternal_eq_getElem, List.getElem_toArray, List.getElem_cons_zero, List.getElem_cons_succ, List.setIfInBounds_toArray, List.set_cons_zero, List.set_cons_succ])
  refine wpAnyC_take [8] (i := 3) (oi := _) (v := ?v2_3) rfl (by kernel_rfl) (by kernel_rfl) (by kernel_rfl) (by kernel_rfl) (fun _ _ _ h => h) (Or.inl ⟨by rfl, ?hy2_3⟩) (by assumption) ?rest2_3
  case hy2_3 => ((intro w hSw; (try dsimp only at hSw); go_simp); (try with_reducible rfl))
  (try simp only [Act.put, Array.getInternal_eq_getElem, List.getElem_toArray, List.getElem_cons_zero, List.getElem_cons_succ, List.setIfInBounds_toArray, List.set_cons_zero, List.set_cons_succ])
  refine wpAnyC_take [8] (i := 4) (oi := _) (v := ?v2_4) rfl (by kernel_rfl) (by kernel_rfl) (by kernel_rfl) (by kernel_rfl) (fun _ _ _ h => h) (Or.inl ⟨by rfl, ?hy2_4⟩) (by assumption) ?rest2_4
  case hy2_4 => ((intro w hSw; (try dsimp only at hSw); go_simp); (try with_reducible rfl))
  (try simp only [Act.put, Array.getInternal_eq_getElem, List.getElem_toArray, List.getElem_cons_zero, List.getElem_cons_succ, List.setIfInBounds_toArray, List.set_cons_zero, List.set_cons_succ])
  refine wpAnyC_any (i := 5) (oi := _) (v := ?v2_5) rfl (by kernel_rfl) (by kernel_rfl) (by kernel_rfl) (by kernel_rfl) (fun _ _ _ h => h) (Or.inl ⟨by rfl, ?hy2_5⟩) (fun _ => by assumption) ?rest2_5
  case hy2_5 => ((intro w _; go_simp); (try with_reducible rfl))
  (try simp only [Act.put, Array.getInternal_eq_getElem, List.getElem_toArray, List.getElem_cons_zero, List.getElem_cons_succ, List.setIfInBounds_toArray, List.set_cons_zero, List.set_cons_succ])
  refine wpAnyC_take [8, 7] (i := 6) (oi := _) (v := ?v2_6) rfl (by kernel_rfl) (by kernel_rfl) (by kernel_rfl) (by kernel_rfl) (fun _ _ _ h => h) (Or.inl ⟨by rfl, ?hy2_6⟩) (by assumption) ?rest2_6
  case hy2_6 => ((intro w hSw; (try dsimp only at hSw); go_simp); (try with_reducible rfl))
  (try simp only [Act.put, Array.getInternal_eq_getElem, List.getElem_toArray, List.getElem_cons_zero, List.getElem_cons_succ, List.setIfInBounds_toArray, List.set_cons_zero, List.set_cons_succ])
  refine wpAnyC_take [8] (i := 7) (oi := _) (v := ?v2_7) rfl (by kernel_rfl) (by kernel_rfl) (by kernel_rfl) (by kernel_rfl) (fun _ _ _ h => h) (Or.inl ⟨by rfl, ?hy2_7⟩) (by assumption) ?rest2_7
  case hy2_7 => ((intro w hSw; (try dsimp only at hSw); go_simp); (try with_reducible rfl))
  (try simp only [Act.put, Array.getInternal_eq_getElem, List.getElem_toArray, List.getElem_cons_zero, List.getElem_cons_succ, List.setIfInBounds_toArray, List.set_cons_zero, List.set_cons_succ])
  refine wpAnyC_last (o := _) (by kernel_rfl) rfl (fun K hK => ?_)
  go_simp
  refine hK.out _ _ ?_
  clear hK K
  refine wpAnyC_done (by kernel_rfl) ?_ _
  have H1 := Lib.hid hH1
  have HB1 := Lib.hid hb1'
  clear hH1 hb1' hc1 hblk hSt hkeep hvar
  have hsz1 : W0.heap.size ≤ w1.heap.size := HB1.out.size
  have hb3 : Below W0.heap.size W0 (w1.setCell ⟨w.heap.size + 1, 2, none⟩ (.slice Ab bl.length cb)) ∨ True := .inr trivial
  clear hb3
  have hor := HOR.out (w1.setCell ⟨w.heap.size + 1, 2, none⟩ (.slice Ab bl.length cb)) ((HC.out.below (((H0.out.bel.trans (HB1.out.mono (by omega))).setCell (show w.heap.size ≤ w.heap.size + 1 by omega) _))).more (show w.heap.size ≤ _ by simp; omega))
  have HO := Lib.hid hor
  clear hor HOR HBK
  go_wp2_with (go_at_call 16; refine halt_ ?_)
  refine Halt_.go ?_
  refine HO.out.mono ?_
  rintro e w4 ⟨Ao, co, rfl, h1, h2⟩
  have HA := Lib.hid (WA.build H0.out HC.out H1.out HB1.out h1 h2)
  clear h1 h2 HO H1 HB1 H0 hsz1 hsz0
  have hvar := HA.out.var
  have hweb := HA.out.web.cell (j := 1) (by omega)
  rw [show webF none 0 0 (some ⟨w.heap.size, 0, none⟩) l.length l.length (.slice Ab bl.length cb) 1 = .slice (some ⟨w.heap.size, 0, none⟩) l.length l.length from rfl] at hweb
  go_wp2
  clear hvar hweb
  go_loopw [49] (fun i wr => ∃ k : Nat, k ≤ l.length ∧ i = .int .i64 k ∧ Hid (WA w wr l A bl lk Ab cb hd Ao co k)) (fun i _ => l.length - (intOf i).toNat)
  case atStart => exact ⟨0, Nat.zero_le _, rfl, HA⟩
  case round =>
    clear HA
    obtain ⟨k, hkn, rfl, HA⟩ := hrel
    by_cases hlt : k < l.length
    · have hvar := HA.out.var
      have hweb := HA.out.web.cell (j := 1) (by omega)
      rw [show webF none 0 0 (some ⟨w.heap.size, 0, none⟩) l.length l.length (.slice Ab bl.length cb) 1 = .slice (some ⟨w.heap.size, 0, none⟩) l.length l.length from rfl] at hweb
      obtain ⟨x, hx, hof⟩ := HA.out.of.get (j := k) (by rw [negs_len]; exact hlt)
      clear hx
      have i1 : (0 : Int) ≤ (k : Int) := by omega
      have i2 : (k : Int) < (l.length : Int) := by omega
      have HA2 := Lib.hid HA.out.neg
      clear HA
      go_wp2
      go_roundw
      case rel => exact ⟨k + 1, by omega, by go_num, HA2⟩
      case measure => simp [intOf]; omega
    · obtain rfl : k = l.length := by omega
      have hvar := HA.out.var
      have hweb := HA.out.web.cell (j := 2) (by omega)
      rw [show webF none 0 0 (some ⟨w.heap.size, 0, none⟩) l.length l.length (.slice Ab bl.length cb) 2 = .slice Ab bl.length cb from rfl] at hweb
      have HL := Lib.hid (LpP.start HA.out.web)
      have hszA := HA.out.sz
      have hvar2 : (wr.alloc (.map #[] 0)).cell? ⟨w.heap.size + 2, 0, none⟩ = some (.pointer (some ⟨w.heap.size + 1, 0, none⟩)) := (HA.out.wr_cell HL.out.ex (p := ⟨w.heap.size + 2, 0, none⟩) (by show w.heap.size + 2 < _; omega) (by show w.heap.size + 2 ≠ _; omega)).trans hvar
      have hweb2 := HL.out.web.cell (j := 2) (by omega)
      rw [show webF none 0 (List.length (α := Pt) []) (some ⟨w.heap.size, 0, none⟩) l.length l.length (.slice Ab bl.length cb) 2 = .slice Ab bl.length cb from rfl] at hweb2
      clear hvar hweb
      go_wp2
      clear hvar2 hweb2 hmm
      generalize wr = wA at *
      go_loopw [65] (fun i wr => ∃ (k m : Nat) (Ap : Option Addr) (cp : Nat) (P : List Pt) (op : Int → Option Nat), k ≤ bl.length ∧ m ≤ k ∧ P.length ≤ k ∧ i = .int .i64 k ∧ Hid (P = ptsB bl k ∧ op = plO bl k) ∧ Hid (LpP wA wr w.heap.size l.length (.slice Ab bl.length cb) Ap cp P m op)) (fun i _ => bl.length - (intOf i).toNat)
      case atStart => exact ⟨0, 0, none, 0, [], _, Nat.zero_le _, Nat.le_refl _, Nat.le_refl _, rfl, ⟨rfl, (plO_zero bl).symm⟩, HL⟩
      case round =>
        clear HL
        obtain ⟨k, m, Ap, cp, P, op, hkn, hmk, hPk, rfl, HPO, HL⟩ := hrel
        by_cases hlt : k < bl.length
        · obtain ⟨g, hAg, hgw, hbc, ⟨Ar, cr, hdr, _⟩, ⟨At, ct, hdt, _⟩⟩ := (HA.out.blks HL.out.ex).at_ (Below.refl _ _) hlt
          subst hAg
          rw [hdr, hdt] at hbc
          obtain ⟨c0, c1, c2, c3, c4, c5, c6, c7, c8⟩ := hbc
          have hov := HOV.out k hlt
          obtain ⟨b, hb⟩ : ∃ b, b = blAt bl k := ⟨_, rfl⟩
          rw [← hb] at c0 c1 c2 c3 c4 c5 c6 c7 c8 hov
          have HBB := Lib.hid hb
          have hBA : w.heap.size + 1 < wA.heap.size := by have := HA.out.sz; omega
          have hvar := HA.out.varC HL.out.ex
          have HOB := Lib.hid hov
          have i1 : (0 : Int) ≤ (k : Int) := by omega
          have i2 : (k : Int) < (bl.length : Int) := by omega
          have hsr := HL.out.ex.size
          clear hb hov hdr hdt
          by_cases hk3 : b.kind ≤ 3
          · have hcell : ∀ (o : Obj) (p : Addr) v, p.block < wr.heap.size → wr.cell? p = some v → (wr.alloc o).cell? p = some v := fun o p v hp hc => (World.cell?_of_block (w := wr) ((World.grownBy_alloc wr o none).block _ hp (by simp))).trans hc
            have HLa := Lib.hid (HL.out.alloc hBA (.cells #[.int .i64 b.th, .int .i64 b.kind, .int .i64 (b.first : Int), .int .i64 (b.last : Int), .int .u64 b.num, .bool b.wr, .int .i64 b.err, .slice Ar b.rd.length cr, .slice At b.wt.length ct] 43))
            have hvar1 := HA.out.varC HLa.out.ex
            have hw1 := HLa.out.web0
            obtain ⟨w2, hrun, hpl, hg2⟩ := HLa.out.pl.put (t := (k : Int)) ⟨i1, by omega⟩ (show m < maxLen by unfold maxLen; omega) (show P.length < 4611686018427387904 by omega)
            have HL2 := Lib.hid (HLa.out.map hBA hpl hg2)
            have b0 : w2.cell? ⟨wr.heap.size, 0, none⟩ = some (.int .i64 b.th) := hg2.cell (by rw [cell_of_row _ _ _ _ 43 (0, 0) (heap_alloc_new _ _)]; rfl) (fun e => absurd (Option.some.inj e) (show wr.heap.size ≠ wA.heap.size by have := HL.out.pl.lt; omega))
            have b2 : w2.cell? ⟨wr.heap.size, 2, none⟩ = some (.int .i64 (b.first : Int)) := hg2.cell (by rw [cell_of_row _ _ _ _ 43 (0, 0) (heap_alloc_new _ _)]; rfl) (fun e => absurd (Option.some.inj e) (show wr.heap.size ≠ wA.heap.size by have := HL.out.pl.lt; omega))
            have b3 : w2.cell? ⟨wr.heap.size, 3, none⟩ = some (.int .i64 (b.last : Int)) := hg2.cell (by rw [cell_of_row _ _ _ _ 43 (0, 0) (heap_alloc_new _ _)]; rfl) (fun e => absurd (Option.some.inj e) (show wr.heap.size ≠ wA.heap.size by have := HL.out.pl.lt; omega))
            have hsz2 : wr.heap.size + 1 ≤ w2.heap.size := by have := hg2.size; simpa using this
            have hvar2 := HA.out.varC HL2.out.ex
            have hw2 := HL2.out.web0
            have hmkS : ∀ W : World, Ex w2 W (fun j => (Value.slice Ap P.length cp).ownBlock = some j) → (W.cell? ⟨w.heap.size + 2, 0, none⟩ = some (.pointer (some ⟨w.heap.size + 1, 0, none⟩)) ∧ (W.cell? ⟨w.heap.size + 1, 0, none⟩ = some (.slice Ap P.length cp) ∧ W.frozen? ⟨w.heap.size + 1, 0, none⟩ = false) ∧ W.cell? ⟨wr.heap.size, 0, none⟩ = some (.int .i64 b.th) ∧ W.cell? ⟨wr.heap.size, 2, none⟩ = some (.int .i64 (b.first : Int)) ∧ W.cell? ⟨wr.heap.size, 3, none⟩ = some (.int .i64 (b.last : Int))) ∧ Ex w2 W (fun j => (Value.slice Ap P.length cp).ownBlock = some j) := fun W h => by
              have hn : ∀ j, j < wA.heap.size ∨ j = wr.heap.size → j < w2.heap.size ∧ ¬ (Value.slice Ap P.length cp).ownBlock = some j := fun j hj => ⟨by omega, fun e => by
                have := HL.out.own j e
                omega⟩
              have q1 := hn (w.heap.size + 2) (.inl (by have := HA.out.sz; omega))
              have q2 := hn (w.heap.size + 1) (.inl (by omega))
              have q3 := hn wr.heap.size (.inr rfl)
              exact ⟨⟨(h.cell (p := ⟨w.heap.size + 2, 0, none⟩) q1.1 q1.2).trans hvar2, ⟨(h.cell (p := ⟨w.heap.size + 1, 0, none⟩) q2.1 q2.2).trans hw2.1, (World.frozen?_of_block (w := w2) (h.block _ q2.1 q2.2)).trans hw2.2⟩,
                (h.cell (p := ⟨wr.heap.size, 0, none⟩) q3.1 q3.2).trans b0, (h.cell (p := ⟨wr.heap.size, 2, none⟩) q3.1 q3.2).trans b2, (h.cell (p := ⟨wr.heap.size, 3, none⟩) q3.1 q3.2).trans b3⟩, h⟩
            have hrow : w2.drew.ownsRow (wA.heap.size + 1) 170 13 (.slice Ap P.length cp) P.length ((List.range (P.length * 13)).map (pF P sn0 tn0)) := HL2.out.pm.drew
            have HROW := Lib.hid hrow
            have HS := Lib.hid hmkS
            have hpb : P.length ≤ 1048576 := by omega
            clear hpl hg2 hrow hcell hvar2 hw2 hmkS b0 b2 b3 HLa
            go_wp2
            have hSt := HS.out w2.drew (Ex.refl w2 _).drew
            clear hrun c0 c1 c2 c3 c4 c5 c6 c7 c8 hvar hvar1 hw1
            refine wp_region_C (S := fun W => (W.cell? ⟨w.heap.size + 2, 0, none⟩ = some (.pointer (some ⟨w.heap.size + 1, 0, none⟩)) ∧ (W.cell? ⟨w.heap.size + 1, 0, none⟩ = some (.slice Ap P.length cp) ∧ W.frozen? ⟨w.heap.size + 1, 0, none⟩ = false) ∧ W.cell? ⟨wr.heap.size, 0, none⟩ = some (.int .i64 b.th) ∧ W.cell? ⟨wr.heap.size, 2, none⟩ = some (.int .i64 (b.first : Int)) ∧ W.cell? ⟨wr.heap.size, 3, none⟩ = some (.int .i64 (b.last : Int))) ∧ Ex w2 W (fun j => (Value.slice Ap P.length cp).ownBlock = some j)) 17 (by kernel_rfl) hSt (fun hHeld => ?_)
            refine wpAnyC_take [17] (i := 0) (oi := _) (v := ?v15_0) rfl (by kernel_rfl) (by kernel_rfl) (by kernel_rfl) (by kernel_rfl) (fun _ _ _ h => h) (Or.inl ⟨by rfl, ?hy15_0⟩) (by assumption) ?rest15_0
            case hy15_0 => ((intro w hSw; (try dsimp only at hSw); go_simp); (try with_reducible rfl))
            (try simp only [Act.put, Array.getInternal_eq_getElem, List.getElem_toArray, List.getElem_cons_zero, List.getElem_cons_succ, List.setIfInBounds_toArray, List.set_cons_zero, List.set_cons_succ])
            refine wpAnyC_take [17] (i := 1) (oi := _) (v := ?v15_1) rfl (by kernel_rfl) (by kernel_rfl) (by kernel_rfl) (by kernel_rfl) (fun _ _ _ h => h) (Or.inl ⟨by rfl, ?hy15_1⟩) (by assumption) ?rest15_1
            case hy15_1 => ((intro w hSw; (try dsimp only at hSw); go_simp); (try with_reducible rfl))
            (try simp only [Act.put, Array.getInternal_eq_getElem, List.getElem_toArray, List.getElem_cons_zero, List.getElem_cons_succ, List.setIfInBounds_toArray, List.set_cons_zero, List.set_cons_succ])
            refine wpAnyC_take [17] (i := 2) (oi := _) (v := ?v15_2) rfl (by kernel_rfl) (by kernel_rfl) (by kernel_rfl) (by kernel_rfl) (fun _ _ _ h => h) (Or.inl ⟨by rfl, ?hy15_2⟩) (by assumption) ?rest15_2
            case hy15_2 => ((intro w hSw; (try dsimp only at hSw); go_simp); (try with_reducible rfl))
            (try simp only [Act.put, Array.getInternal_eq_getElem, List.getElem_toArray, List.getElem_cons_zero, List.getElem_cons_succ, List.setIfInBounds_toArray, List.set_cons_zero, List.set_cons_succ])
            refine wpAnyC_take [17] (i := 3) (oi := _) (v := ?v15_3) rfl (by kernel_rfl) (by kernel_rfl) (by kernel_rfl) (by kernel_rfl) (fun _ _ _ h => h) (Or.inl ⟨by rfl, ?hy15_3⟩) (by assumption) ?rest15_3
            case hy15_3 => ((intro w hSw; (try dsimp only at hSw); go_simp); (try with_reducible rfl))
            (try simp only [Act.put, Array.getInternal_eq_getElem, List.getElem_toArray, List.getElem_cons_zero, List.getElem_cons_succ, List.setIfInBounds_toArray, List.set_cons_zero, List.set_cons_succ])
            refine wpAnyC_take [17] (i := 4) (oi := _) (v := ?v15_4) rfl (by kernel_rfl) (by kernel_rfl) (by kernel_rfl) (by kernel_rfl) (fun _ _ _ h => h) (Or.inl ⟨by rfl, ?hy15_4⟩) (by assumption) ?rest15_4
            case hy15_4 => ((intro w hSw; (try dsimp only at hSw); go_simp); (try with_reducible rfl))
            (try simp only [Act.put, Array.getInternal_eq_getElem, List.getElem_toArray, List.getElem_cons_zero, List.getElem_cons_succ, List.setIfInBounds_toArray, List.set_cons_zero, List.set_cons_succ])
            refine wpAnyC_take [17] (i := 5) (oi := _) (v := ?v15_5) rfl (by kernel_rfl) (by kernel_rfl) (by kernel_rfl) (by kernel_rfl) (fun _ _ _ h => h) (Or.inl ⟨by rfl, ?hy15_5⟩) (by assumption) ?rest15_5
            case hy15_5 => ((intro w hSw; (try dsimp only at hSw); go_simp); (try with_reducible rfl))
            (try simp only [Act.put, Array.getInternal_eq_getElem, List.getElem_toArray, List.getElem_cons_zero, List.getElem_cons_succ, List.setIfInBounds_toArray, List.set_cons_zero, List.set_cons_succ])
            refine wpAnyC_take [17] (i := 6) (oi := _) (v := ?v15_6) rfl (by kernel_rfl) (by kernel_rfl) (by kernel_rfl) (by kernel_rfl) (fun _ _ _ h => h) (Or.inl ⟨by rfl, ?hy15_6⟩) (by assumption) ?rest15_6
            case hy15_6 => ((intro w hSw; (try dsimp only at hSw); go_simp); (try with_reducible rfl))
            (try simp only [Act.put, Array.getInternal_eq_getElem, List.getElem_toArray, List.getElem_cons_zero, List.getElem_cons_succ, List.setIfInBounds_toArray, List.set_cons_zero, List.set_cons_succ])
            refine wpAnyC_take [17] (i := 7) (oi := _) (v := ?v15_7) rfl (by kernel_rfl) (by kernel_rfl) (by kernel_rfl) (by kernel_rfl) (fun _ _ _ h => h) (Or.inl ⟨by rfl, ?hy15_7⟩) (by assumption) ?rest15_7
            case hy15_7 => ((intro w hSw; (try dsimp only at hSw); go_simp); (try with_reducible rfl))
            (try simp only [Act.put, Array.getInternal_eq_getElem, List.getElem_toArray, List.getElem_cons_zero, List.getElem_cons_succ, List.setIfInBounds_toArray, List.set_cons_zero, List.set_cons_succ])
            refine wpAnyC_take [17] (i := 8) (oi := _) (v := ?v15_8) rfl (by kernel_rfl) (by kernel_rfl) (by kernel_rfl) (by kernel_rfl) (fun _ _ _ h => h) (Or.inl ⟨by rfl, ?hy15_8⟩) (by assumption) ?rest15_8
            case hy15_8 => ((intro w hSw; (try dsimp only at hSw); go_simp); (try with_reducible rfl))
            (try simp only [Act.put, Array.getInternal_eq_getElem, List.getElem_toArray, List.getElem_cons_zero, List.getElem_cons_succ, List.setIfInBounds_toArray, List.set_cons_zero, List.set_cons_succ])
            refine wpAnyC_take [17] (i := 9) (oi := _) (v := ?v15_9) rfl (by kernel_rfl) (by kernel_rfl) (by kernel_rfl) (by kernel_rfl) (fun _ _ _ h => h) (Or.inl ⟨by rfl, ?hy15_9⟩) (by assumption) ?rest15_9
            case hy15_9 => ((intro w hSw; (try dsimp only at hSw); go_simp); (try with_reducible rfl))
            (try simp only [Act.put, Array.getInternal_eq_getElem, List.getElem_toArray, List.getElem_cons_zero, List.getElem_cons_succ, List.setIfInBounds_toArray, List.set_cons_zero, List.set_cons_succ])
            refine wpAnyC_take [17] (i := 10) (oi := _) (v := ?v15_10) rfl (by kernel_rfl) (by kernel_rfl) (by kernel_rfl) (by kernel_rfl) (fun _ _ _ h => h) (Or.inl ⟨by rfl, ?hy15_10⟩) (by assumption) ?rest15_10
            case hy15_10 => ((intro w hSw; (try dsimp only at hSw); go_simp); (try with_reducible rfl))
            (try simp only [Act.put, Array.getInternal_eq_getElem, List.getElem_toArray, List.getElem_cons_zero, List.getElem_cons_succ, List.setIfInBounds_toArray, List.set_cons_zero, List.set_cons_succ])
            refine wpAnyC_take [17] (i := 11) (oi := _) (v := ?v15_11) rfl (by kernel_rfl) (by kernel_rfl) (by kernel_rfl) (by kernel_rfl) (fun _ _ _ h => h) (Or.inl ⟨by rfl, ?hy15_11⟩) (by assumption) ?rest15_11
            case hy15_11 => ((intro w hSw; (try dsimp only at hSw); go_simp); (try with_reducible rfl))
            (try simp only [Act.put, Array.getInternal_eq_getElem, List.getElem_toArray, List.getElem_cons_zero, List.getElem_cons_succ, List.setIfInBounds_toArray, List.set_cons_zero, List.set_cons_succ])
            refine wpAnyC_take [17] (i := 12) (oi := _) (v := ?v15_12) rfl (by kernel_rfl) (by kernel_rfl) (by kernel_rfl) (by kernel_rfl) (fun _ _ _ h => h) (Or.inl ⟨by rfl, ?hy15_12⟩) (by assumption) ?rest15_12
            case hy15_12 => ((intro w hSw; (try dsimp only at hSw); go_simp); (try with_reducible rfl))
            (try simp only [Act.put, Array.getInternal_eq_getElem, List.getElem_toArray, List.getElem_cons_zero, List.getElem_cons_succ, List.setIfInBounds_toArray, List.set_cons_zero, List.set_cons_succ])
            refine wpAnyC_one (i := 13) (o := _) (by kernel_rfl) rfl (fun K hK => ?_)
            go_simp
            refine hK.out _ _ (HS.out _ (hHeld.2.alloc _)) (fun hHeld => ?_)
            clear hK K
            (try simp only [Act.put, Array.getInternal_eq_getElem, List.getElem_toArray, List.getElem_cons_zero, List.getElem_cons_succ, List.setIfInBounds_toArray, List.set_cons_zero, List.set_cons_succ])
            refine wpAnyC_one (i := 14) (o := _) (by kernel_rfl) rfl (fun K hK => ?_)
            refine step_append_two _ (by rfl) (.tmp 84) (.tmp 93) 132 (by rfl) (wA.heap.size + 1) 170 _ 13 104 info170 Try.underlying132 rfl (by decide) (.slice Ap P.length cp) P.length ((List.range (P.length * 13)).map (pF P sn0 tn0)) (by rfl) (HROW.out.alloc _) w2.heap.size 1 [.int .i64 b.th, .int .i64 (b.first : Int), .int .i64 (b.last : Int), .int .i64 (k : Int), .int .i64 0, .int .i64 0, .int .i64 0, .int .i64 0, .int .i64 0, .int .i64 0, .int .i64 0, .int .i64 0, .int .i64 0] (by rfl) (heap_at _ _ _ (by simp)) rfl (by simp [Value.oneCell']) (by omega) (by omega) (by simp; omega) ?_
            intro g cap2 w3 hown3 hlt3 htwo
            have hgr : w2.grownBy w3 (Value.slice Ap P.length cp).ownBlock := grown_trans (grown_trans (grown_drew _ _) (World.grownBy_alloc _ _ _)) (two_grown htwo)
            refine hK.out _ _ (HS.out _ ((Ex.refl w2 _).grown hgr (fun _ h _ => h))) (fun hHeld => ?_)
            clear hK K
            (try simp only [Act.put, Array.getInternal_eq_getElem, List.getElem_toArray, List.getElem_cons_zero, List.getElem_cons_succ, List.setIfInBounds_toArray, List.set_cons_zero, List.set_cons_succ])
            refine wpAnyC_take [17, 16] (i := 15) (oi := _) (v := ?v15_15) rfl (by kernel_rfl) (by kernel_rfl) (by kernel_rfl) (by kernel_rfl) (fun _ _ _ h => h) (Or.inl ⟨by rfl, ?hy15_15⟩) (by assumption) ?rest15_15
            case hy15_15 => ((intro w hSw; (try dsimp only at hSw); go_simp); (try with_reducible rfl))
            (try simp only [Act.put, Array.getInternal_eq_getElem, List.getElem_toArray, List.getElem_cons_zero, List.getElem_cons_succ, List.setIfInBounds_toArray, List.set_cons_zero, List.set_cons_succ])
            refine wpAnyC_take [17] (i := 16) (oi := _) (v := ?v15_16) rfl (by kernel_rfl) (by kernel_rfl) (by kernel_rfl) (by kernel_rfl) (fun _ _ _ h => h) (Or.inl ⟨by rfl, ?hy15_16⟩) (by assumption) ?rest15_16
            case hy15_16 => ((intro w hSw; (try dsimp only at hSw); go_simp); (try with_reducible rfl))
            (try simp only [Act.put, Array.getInternal_eq_getElem, List.getElem_toArray, List.getElem_cons_zero, List.getElem_cons_succ, List.setIfInBounds_toArray, List.set_cons_zero, List.set_cons_succ])
            refine wpAnyC_last (o := _) (by kernel_rfl) rfl (fun K hK => ?_)
            go_simp
            refine hK.out _ _ ?_
            clear hK K
            refine wpAnyC_done (by kernel_rfl) ?_ _
            have HL3 := Lib.hid (HL2.out.push hBA ⟨b.th, b.first, b.last, (k : Int)⟩ hgr hown3)
            clear hgr hown3 hlt3 htwo HL2 HROW HS HL
            go_wp2
            go_roundw
            case rel =>
              have hov := HOB.out.2 hk3
              rw [HBB.out] at hov
              refine ⟨k + 1, m + 1, some ⟨g, 0, none⟩, cap2, P ++ [⟨b.th, b.first, b.last, (k : Int)⟩], _, hlt, by omega, by simp; omega, by go_num, ?_, HL3⟩
              have hP := HPO.out.1
              have hO := HPO.out.2
              constructor
              · rw [ptsB_succ, if_pos hov, ← hP, HBB.out]
                rfl
              · rw [← plO_hit hov, ← hO, ← hP]
            case measure => simp [intOf]; omega
          · have HLa := Lib.hid (HL.out.alloc hBA (.cells #[.int .i64 b.th, .int .i64 b.kind, .int .i64 (b.first : Int), .int .i64 (b.last : Int), .int .u64 b.num, .bool b.wr, .int .i64 b.err, .slice Ar b.rd.length cr, .slice At b.wt.length ct] 43))
            clear HL
            go_wp2
            go_roundw
            case rel =>
              have hov : ¬ OverB b = true := fun h => hk3 (HOB.out.1 h)
              rw [HBB.out] at hov
              refine ⟨k + 1, m, Ap, cp, P, op, hlt, by omega, by omega, by go_num, ?_, HLa⟩
              have hP := HPO.out.1
              have hO := HPO.out.2
              exact ⟨by rw [ptsB_succ, if_neg hov]; exact hP, by rw [← plO_miss hov]; exact hO⟩
            case measure => simp [intOf]; omega
        · obtain rfl : k = bl.length := by omega
          go_wp2
          go_loopw [100] (fun i wr => ∃ (k : Nat) (Ap : Option Addr) (cp : Nat) (P : List Pt), k ≤ l.length ∧ P.length ≤ bl.length + k ∧ i = .int .i64 k ∧ Hid (P = ptsB bl bl.length ++ ptsE l k) ∧ Hid (LpP wA wr w.heap.size l.length (.slice Ab bl.length cb) Ap cp P m op)) (fun i _ => l.length - (intOf i).toNat)
          case atStart => exact ⟨0, Ap, cp, P, Nat.zero_le _, by omega, rfl, Lib.hid (by rw [HPO.out.1]; simp [ptsE]), HL⟩
          case round =>
            have HOP := Lib.hid HPO.out.2
            clear HL HPO hPk
            obtain ⟨k, Ap, cp, P, hkn, hPk, rfl, HP, HL⟩ := hrel
            have hBA : w.heap.size + 1 < wA.heap.size := by have := HA.out.sz; omega
            by_cases hlt : k < l.length
            · obtain ⟨eb, eo, e, hA, heb, he, hwd, e0, e1, e2, e3, e4, e5⟩ := (HA.out.evs HL.out.ex).at_ (Below.refl _ _) hlt
              subst hA
              have HE := Lib.hid he.out
              obtain ⟨t, kd, ad, x, ow, er⟩ := e
              simp only at e0 e1 e2 e3 e4 e5
              have i1 : (0 : Int) ≤ (k : Int) := by omega
              have i2 : (k : Int) < (l.length : Int) := by omega
              have hsr := HL.out.ex.size
              obtain ⟨w2, hw2⟩ : ∃ w2, w2 = wr.alloc (.cells #[.int .i64 t, .int .i64 kd, .int .u64 ad, .int .u64 x, .bool ow, .int .i64 er] 97) := ⟨_, rfl⟩
              have HL2 : Hid (LpP wA w2 w.heap.size l.length (.slice Ab bl.length cb) Ap cp P m op) := by rw [hw2]; exact HL.out.alloc hBA _
              have HW2 := Lib.hid hw2
              have HPX : Hid (∀ Q : List Pt, Q = P ++ [⟨t, k, k, -1⟩] → PlK kd → Q = ptsB bl bl.length ++ ptsE l (k + 1)) := by
                intro Q hQ hk
                have hg : l.getD k ev0 = ⟨t, kd, ad, x, ow, er⟩ := by simp [List.getD, HE.out]
                rw [hQ, HP.out, ptsE_succ, hg, if_pos hk, List.append_assoc]
                unfold ptOfE
                rw [hg]
              have HPN : Hid (¬ PlK kd → P = ptsB bl bl.length ++ ptsE l (k + 1)) := by
                intro hk
                have hg : l.getD k ev0 = ⟨t, kd, ad, x, ow, er⟩ := by simp [List.getD, HE.out]
                rw [ptsE_succ, hg, if_neg hk]
                exact HP.out
              have hsz2 : wr.heap.size + 1 ≤ w2.heap.size := by rw [hw2]; simp
              have b0 : w2.cell? ⟨wr.heap.size, 0, none⟩ = some (.int .i64 t) := by rw [hw2, cell_of_row _ _ _ _ 97 (0, 0) (heap_alloc_new _ _)]; rfl
              have hvar2 := HA.out.varC HL2.out.ex
              have hw2c := HL2.out.web0
              have hmkS : ∀ W : World, Ex w2 W (fun j => (Value.slice Ap P.length cp).ownBlock = some j) → (W.cell? ⟨w.heap.size + 2, 0, none⟩ = some (.pointer (some ⟨w.heap.size + 1, 0, none⟩)) ∧ (W.cell? ⟨w.heap.size + 1, 0, none⟩ = some (.slice Ap P.length cp) ∧ W.frozen? ⟨w.heap.size + 1, 0, none⟩ = false) ∧ W.cell? ⟨wr.heap.size, 0, none⟩ = some (.int .i64 t)) ∧ Ex w2 W (fun j => (Value.slice Ap P.length cp).ownBlock = some j) := fun W h => by
                have hn : ∀ j, j < wA.heap.size ∨ j = wr.heap.size → j < w2.heap.size ∧ ¬ (Value.slice Ap P.length cp).ownBlock = some j := fun j hj => ⟨by omega, fun e => by
                  have := HL.out.own j e
                  omega⟩
                have q1 := hn (w.heap.size + 2) (.inl (by have := HA.out.sz; omega))
                have q2 := hn (w.heap.size + 1) (.inl (by omega))
                have q3 := hn wr.heap.size (.inr rfl)
                exact ⟨⟨(h.cell (p := ⟨w.heap.size + 2, 0, none⟩) q1.1 q1.2).trans hvar2, ⟨(h.cell (p := ⟨w.heap.size + 1, 0, none⟩) q2.1 q2.2).trans hw2c.1, (World.frozen?_of_block (w := w2) (h.block _ q2.1 q2.2)).trans hw2c.2⟩,
                  (h.cell (p := ⟨wr.heap.size, 0, none⟩) q3.1 q3.2).trans b0⟩, h⟩
              have hrow : w2.drew.ownsRow (wA.heap.size + 1) 170 13 (.slice Ap P.length cp) P.length ((List.range (P.length * 13)).map (pF P sn0 tn0)) := HL2.out.pm.drew
              have HROW := Lib.hid hrow
              have HS := Lib.hid hmkS
              have hpb : P.length ≤ 2097152 := by omega
              clear hrow hmkS b0 hvar2 hw2c he HE HP HL hw2 hwd
              by_cases hp : PlK kd
              · rcases hp with rfl | rfl
                · go_wp2
                  rw [← HW2.out]
                  have hSt := HS.out w2.drew (Ex.refl w2 _).drew
                  clear HW2 e0 e1 e2 e3 e4 e5
                  refine wp_region_C (S := fun W => (W.cell? ⟨w.heap.size + 2, 0, none⟩ = some (.pointer (some ⟨w.heap.size + 1, 0, none⟩)) ∧ (W.cell? ⟨w.heap.size + 1, 0, none⟩ = some (.slice Ap P.length cp) ∧ W.frozen? ⟨w.heap.size + 1, 0, none⟩ = false) ∧ W.cell? ⟨wr.heap.size, 0, none⟩ = some (.int .i64 t)) ∧ Ex w2 W (fun j => (Value.slice Ap P.length cp).ownBlock = some j)) 14 (by kernel_rfl) hSt (fun hHeld => ?_)
                  refine wpAnyC_take [14] (i := 0) (oi := _) (v := ?v21a_0) rfl (by kernel_rfl) (by kernel_rfl) (by kernel_rfl) (by kernel_rfl) (fun _ _ _ h => h) (Or.inl ⟨by rfl, ?hy21a_0⟩) (by assumption) ?rest21a_0
                  case hy21a_0 => ((intro w hSw; (try dsimp only at hSw); go_simp); (try with_reducible rfl))
                  (try simp only [Act.put, Array.getInternal_eq_getElem, List.getElem_toArray, List.getElem_cons_zero, List.getElem_cons_succ, List.setIfInBounds_toArray, List.set_cons_zero, List.set_cons_succ])
                  refine wpAnyC_take [14] (i := 1) (oi := _) (v := ?v21a_1) rfl (by kernel_rfl) (by kernel_rfl) (by kernel_rfl) (by kernel_rfl) (fun _ _ _ h => h) (Or.inl ⟨by rfl, ?hy21a_1⟩) (by assumption) ?rest21a_1
                  case hy21a_1 => ((intro w hSw; (try dsimp only at hSw); go_simp); (try with_reducible rfl))
                  (try simp only [Act.put, Array.getInternal_eq_getElem, List.getElem_toArray, List.getElem_cons_zero, List.getElem_cons_succ, List.setIfInBounds_toArray, List.set_cons_zero, List.set_cons_succ])
                  refine wpAnyC_take [14] (i := 2) (oi := _) (v := ?v21a_2) rfl (by kernel_rfl) (by kernel_rfl) (by kernel_rfl) (by kernel_rfl) (fun _ _ _ h => h) (Or.inl ⟨by rfl, ?hy21a_2⟩) (by assumption) ?rest21a_2
                  case hy21a_2 => ((intro w hSw; (try dsimp only at hSw); go_simp); (try with_reducible rfl))
                  (try simp only [Act.put, Array.getInternal_eq_getElem, List.getElem_toArray, List.getElem_cons_zero, List.getElem_cons_succ, List.setIfInBounds_toArray, List.set_cons_zero, List.set_cons_succ])
                  refine wpAnyC_take [14] (i := 3) (oi := _) (v := ?v21a_3) rfl (by kernel_rfl) (by kernel_rfl) (by kernel_rfl) (by kernel_rfl) (fun _ _ _ h => h) (Or.inl ⟨by rfl, ?hy21a_3⟩) (by assumption) ?rest21a_3
                  case hy21a_3 => ((intro w hSw; (try dsimp only at hSw); go_simp); (try with_reducible rfl))
                  (try simp only [Act.put, Array.getInternal_eq_getElem, List.getElem_toArray, List.getElem_cons_zero, List.getElem_cons_succ, List.setIfInBounds_toArray, List.set_cons_zero, List.set_cons_succ])
                  refine wpAnyC_take [14] (i := 4) (oi := _) (v := ?v21a_4) rfl (by kernel_rfl) (by kernel_rfl) (by kernel_rfl) (by kernel_rfl) (fun _ _ _ h => h) (Or.inl ⟨by rfl, ?hy21a_4⟩) (by assumption) ?rest21a_4
                  case hy21a_4 => ((intro w hSw; (try dsimp only at hSw); go_simp); (try with_reducible rfl))
                  (try simp only [Act.put, Array.getInternal_eq_getElem, List.getElem_toArray, List.getElem_cons_zero, List.getElem_cons_succ, List.setIfInBounds_toArray, List.set_cons_zero, List.set_cons_succ])
                  refine wpAnyC_take [14] (i := 5) (oi := _) (v := ?v21a_5) rfl (by kernel_rfl) (by kernel_rfl) (by kernel_rfl) (by kernel_rfl) (fun _ _ _ h => h) (Or.inl ⟨by rfl, ?hy21a_5⟩) (by assumption) ?rest21a_5
                  case hy21a_5 => ((intro w hSw; (try dsimp only at hSw); go_simp); (try with_reducible rfl))
                  (try simp only [Act.put, Array.getInternal_eq_getElem, List.getElem_toArray, List.getElem_cons_zero, List.getElem_cons_succ, List.setIfInBounds_toArray, List.set_cons_zero, List.set_cons_succ])
                  refine wpAnyC_take [14] (i := 6) (oi := _) (v := ?v21a_6) rfl (by kernel_rfl) (by kernel_rfl) (by kernel_rfl) (by kernel_rfl) (fun _ _ _ h => h) (Or.inl ⟨by rfl, ?hy21a_6⟩) (by assumption) ?rest21a_6
                  case hy21a_6 => ((intro w hSw; (try dsimp only at hSw); go_simp); (try with_reducible rfl))
                  (try simp only [Act.put, Array.getInternal_eq_getElem, List.getElem_toArray, List.getElem_cons_zero, List.getElem_cons_succ, List.setIfInBounds_toArray, List.set_cons_zero, List.set_cons_succ])
                  refine wpAnyC_take [14] (i := 7) (oi := _) (v := ?v21a_7) rfl (by kernel_rfl) (by kernel_rfl) (by kernel_rfl) (by kernel_rfl) (fun _ _ _ h => h) (Or.inl ⟨by rfl, ?hy21a_7⟩) (by assumption) ?rest21a_7
                  case hy21a_7 => ((intro w hSw; (try dsimp only at hSw); go_simp); (try with_reducible rfl))
                  (try simp only [Act.put, Array.getInternal_eq_getElem, List.getElem_toArray, List.getElem_cons_zero, List.getElem_cons_succ, List.setIfInBounds_toArray, List.set_cons_zero, List.set_cons_succ])
                  refine wpAnyC_take [14] (i := 8) (oi := _) (v := ?v21a_8) rfl (by kernel_rfl) (by kernel_rfl) (by kernel_rfl) (by kernel_rfl) (fun _ _ _ h => h) (Or.inl ⟨by rfl, ?hy21a_8⟩) (by assumption) ?rest21a_8
                  case hy21a_8 => ((intro w hSw; (try dsimp only at hSw); go_simp); (try with_reducible rfl))
                  (try simp only [Act.put, Array.getInternal_eq_getElem, List.getElem_toArray, List.getElem_cons_zero, List.getElem_cons_succ, List.setIfInBounds_toArray, List.set_cons_zero, List.set_cons_succ])
                  refine wpAnyC_take [14] (i := 9) (oi := _) (v := ?v21a_9) rfl (by kernel_rfl) (by kernel_rfl) (by kernel_rfl) (by kernel_rfl) (fun _ _ _ h => h) (Or.inl ⟨by rfl, ?hy21a_9⟩) (by assumption) ?rest21a_9
                  case hy21a_9 => ((intro w hSw; (try dsimp only at hSw); go_simp); (try with_reducible rfl))
                  (try simp only [Act.put, Array.getInternal_eq_getElem, List.getElem_toArray, List.getElem_cons_zero, List.getElem_cons_succ, List.setIfInBounds_toArray, List.set_cons_zero, List.set_cons_succ])
                  refine wpAnyC_one (i := 10) (o := _) (by kernel_rfl) rfl (fun K hK => ?_)
                  go_simp
                  refine hK.out _ _ (HS.out _ (hHeld.2.alloc _)) (fun hHeld => ?_)
                  clear hK K
                  (try simp only [Act.put, Array.getInternal_eq_getElem, List.getElem_toArray, List.getElem_cons_zero, List.getElem_cons_succ, List.setIfInBounds_toArray, List.set_cons_zero, List.set_cons_succ])
                  refine wpAnyC_one (i := 11) (o := _) (by kernel_rfl) rfl (fun K hK => ?_)
                  refine step_append_two _ (by rfl) (.tmp 117) (.tmp 123) 132 (by rfl) (wA.heap.size + 1) 170 _ 13 104 info170 Try.underlying132 rfl (by decide) (.slice Ap P.length cp) P.length ((List.range (P.length * 13)).map (pF P sn0 tn0)) (by rfl) (HROW.out.alloc _) w2.heap.size 1 [.int .i64 t, .int .i64 (k : Int), .int .i64 (k : Int), .int .i64 (-1), .int .i64 0, .int .i64 0, .int .i64 0, .int .i64 0, .int .i64 0, .int .i64 0, .int .i64 0, .int .i64 0, .int .i64 0] (by rfl) (heap_at _ _ _ (by simp)) rfl (by simp [Value.oneCell']) (by omega) (by omega) (by simp; omega) ?_
                  intro g cap2 w3 hown3 hlt3 htwo
                  have hgr : w2.grownBy w3 (Value.slice Ap P.length cp).ownBlock := grown_trans (grown_trans (grown_drew _ _) (World.grownBy_alloc _ _ _)) (two_grown htwo)
                  refine hK.out _ _ (HS.out _ ((Ex.refl w2 _).grown hgr (fun _ h _ => h))) (fun hHeld => ?_)
                  clear hK K
                  (try simp only [Act.put, Array.getInternal_eq_getElem, List.getElem_toArray, List.getElem_cons_zero, List.getElem_cons_succ, List.setIfInBounds_toArray, List.set_cons_zero, List.set_cons_succ])
                  refine wpAnyC_take [14, 13] (i := 12) (oi := _) (v := ?v21a_12) rfl (by kernel_rfl) (by kernel_rfl) (by kernel_rfl) (by kernel_rfl) (fun _ _ _ h => h) (Or.inl ⟨by rfl, ?hy21a_12⟩) (by assumption) ?rest21a_12
                  case hy21a_12 => ((intro w hSw; (try dsimp only at hSw); go_simp); (try with_reducible rfl))
                  (try simp only [Act.put, Array.getInternal_eq_getElem, List.getElem_toArray, List.getElem_cons_zero, List.getElem_cons_succ, List.setIfInBounds_toArray, List.set_cons_zero, List.set_cons_succ])
                  refine wpAnyC_take [14] (i := 13) (oi := _) (v := ?v21a_13) rfl (by kernel_rfl) (by kernel_rfl) (by kernel_rfl) (by kernel_rfl) (fun _ _ _ h => h) (Or.inl ⟨by rfl, ?hy21a_13⟩) (by assumption) ?rest21a_13
                  case hy21a_13 => ((intro w hSw; (try dsimp only at hSw); go_simp); (try with_reducible rfl))
                  (try simp only [Act.put, Array.getInternal_eq_getElem, List.getElem_toArray, List.getElem_cons_zero, List.getElem_cons_succ, List.setIfInBounds_toArray, List.set_cons_zero, List.set_cons_succ])
                  refine wpAnyC_last (o := _) (by kernel_rfl) rfl (fun K hK => ?_)
                  go_simp
                  refine hK.out _ _ ?_
                  clear hK K
                  refine wpAnyC_done (by kernel_rfl) ?_ _
                  have HL3 := Lib.hid (HL2.out.push hBA ⟨t, k, k, -1⟩ hgr hown3)
                  clear hgr hown3 hlt3 htwo HL2 HROW HS
                  go_wp2
                  go_roundw
                  case rel => exact ⟨k + 1, some ⟨g, 0, none⟩, cap2, P ++ [⟨t, k, k, -1⟩], hlt, by simp; omega, by go_num, HPX.out _ rfl (by decide), HL3⟩
                  case measure => simp [intOf]; omega
                · go_wp2
                  rw [← HW2.out]
                  have hSt := HS.out w2.drew (Ex.refl w2 _).drew
                  clear HW2 e0 e1 e2 e3 e4 e5
                  refine wp_region_C (S := fun W => (W.cell? ⟨w.heap.size + 2, 0, none⟩ = some (.pointer (some ⟨w.heap.size + 1, 0, none⟩)) ∧ (W.cell? ⟨w.heap.size + 1, 0, none⟩ = some (.slice Ap P.length cp) ∧ W.frozen? ⟨w.heap.size + 1, 0, none⟩ = false) ∧ W.cell? ⟨wr.heap.size, 0, none⟩ = some (.int .i64 t)) ∧ Ex w2 W (fun j => (Value.slice Ap P.length cp).ownBlock = some j)) 14 (by kernel_rfl) hSt (fun hHeld => ?_)
                  refine wpAnyC_take [14] (i := 0) (oi := _) (v := ?v21b_0) rfl (by kernel_rfl) (by kernel_rfl) (by kernel_rfl) (by kernel_rfl) (fun _ _ _ h => h) (Or.inl ⟨by rfl, ?hy21b_0⟩) (by assumption) ?rest21b_0
                  case hy21b_0 => ((intro w hSw; (try dsimp only at hSw); go_simp); (try with_reducible rfl))
                  (try simp only [Act.put, Array.getInternal_eq_getElem, List.getElem_toArray, List.getElem_cons_zero, List.getElem_cons_succ, List.setIfInBounds_toArray, List.set_cons_zero, List.set_cons_succ])
                  refine wpAnyC_take [14] (i := 1) (oi := _) (v := ?v21b_1) rfl (by kernel_rfl) (by kernel_rfl) (by kernel_rfl) (by kernel_rfl) (fun _ _ _ h => h) (Or.inl ⟨by rfl, ?hy21b_1⟩) (by assumption) ?rest21b_1
                  case hy21b_1 => ((intro w hSw; (try dsimp only at hSw); go_simp); (try with_reducible rfl))
                  (try simp only [Act.put, Array.getInternal_eq_getElem, List.getElem_toArray, List.getElem_cons_zero, List.getElem_cons_succ, List.setIfInBounds_toArray, List.set_cons_zero, List.set_cons_succ])
                  refine wpAnyC_take [14] (i := 2) (oi := _) (v := ?v21b_2) rfl (by kernel_rfl) (by kernel_rfl) (by kernel_rfl) (by kernel_rfl) (fun _ _ _ h => h) (Or.inl ⟨by rfl, ?hy21b_2⟩) (by assumption) ?rest21b_2
                  case hy21b_2 => ((intro w hSw; (try dsimp only at hSw); go_simp); (try with_reducible rfl))
                  (try simp only [Act.put, Array.getInternal_eq_getElem, List.getElem_toArray, List.getElem_cons_zero, List.getElem_cons_succ, List.setIfInBounds_toArray, List.set_cons_zero, List.set_cons_succ])
                  refine wpAnyC_take [14] (i := 3) (oi := _) (v := ?v21b_3) rfl (by kernel_rfl) (by kernel_rfl) (by kernel_rfl) (by kernel_rfl) (fun _ _ _ h => h) (Or.inl ⟨by rfl, ?hy21b_3⟩) (by assumption) ?rest21b_3
                  case hy21b_3 => ((intro w hSw; (try dsimp only at hSw); go_simp); (try with_reducible rfl))
                  (try simp only [Act.put, Array.getInternal_eq_getElem, List.getElem_toArray, List.getElem_cons_zero, List.getElem_cons_succ, List.setIfInBounds_toArray, List.set_cons_zero, List.set_cons_succ])
                  refine wpAnyC_take [14] (i := 4) (oi := _) (v := ?v21b_4) rfl (by kernel_rfl) (by kernel_rfl) (by kernel_rfl) (by kernel_rfl) (fun _ _ _ h => h) (Or.inl ⟨by rfl, ?hy21b_4⟩) (by assumption) ?rest21b_4
                  case hy21b_4 => ((intro w hSw; (try dsimp only at hSw); go_simp); (try with_reducible rfl))
                  (try simp only [Act.put, Array.getInternal_eq_getElem, List.getElem_toArray, List.getElem_cons_zero, List.getElem_cons_succ, List.setIfInBounds_toArray, List.set_cons_zero, List.set_cons_succ])
                  refine wpAnyC_take [14] (i := 5) (oi := _) (v := ?v21b_5) rfl (by kernel_rfl) (by kernel_rfl) (by kernel_rfl) (by kernel_rfl) (fun _ _ _ h => h) (Or.inl ⟨by rfl, ?hy21b_5⟩) (by assumption) ?rest21b_5
                  case hy21b_5 => ((intro w hSw; (try dsimp only at hSw); go_simp); (try with_reducible rfl))
                  (try simp only [Act.put, Array.getInternal_eq_getElem, List.getElem_toArray, List.getElem_cons_zero, List.getElem_cons_succ, List.setIfInBounds_toArray, List.set_cons_zero, List.set_cons_succ])
                  refine wpAnyC_take [14] (i := 6) (oi := _) (v := ?v21b_6) rfl (by kernel_rfl) (by kernel_rfl) (by kernel_rfl) (by kernel_rfl) (fun _ _ _ h => h) (Or.inl ⟨by rfl, ?hy21b_6⟩) (by assumption) ?rest21b_6
                  case hy21b_6 => ((intro w hSw; (try dsimp only at hSw); go_simp); (try with_reducible rfl))
                  (try simp only [Act.put, Array.getInternal_eq_getElem, List.getElem_toArray, List.getElem_cons_zero, List.getElem_cons_succ, List.setIfInBounds_toArray, List.set_cons_zero, List.set_cons_succ])
                  refine wpAnyC_take [14] (i := 7) (oi := _) (v := ?v21b_7) rfl (by kernel_rfl) (by kernel_rfl) (by kernel_rfl) (by kernel_rfl) (fun _ _ _ h => h) (Or.inl ⟨by rfl, ?hy21b_7⟩) (by assumption) ?rest21b_7
                  case hy21b_7 => ((intro w hSw; (try dsimp only at hSw); go_simp); (try with_reducible rfl))
                  (try simp only [Act.put, Array.getInternal_eq_getElem, List.getElem_toArray, List.getElem_cons_zero, List.getElem_cons_succ, List.setIfInBounds_toArray, List.set_cons_zero, List.set_cons_succ])
                  refine wpAnyC_take [14] (i := 8) (oi := _) (v := ?v21b_8) rfl (by kernel_rfl) (by kernel_rfl) (by kernel_rfl) (by kernel_rfl) (fun _ _ _ h => h) (Or.inl ⟨by rfl, ?hy21b_8⟩) (by assumption) ?rest21b_8
                  case hy21b_8 => ((intro w hSw; (try dsimp only at hSw); go_simp); (try with_reducible rfl))
                  (try simp only [Act.put, Array.getInternal_eq_getElem, List.getElem_toArray, List.getElem_cons_zero, List.getElem_cons_succ, List.setIfInBounds_toArray, List.set_cons_zero, List.set_cons_succ])
                  refine wpAnyC_take [14] (i := 9) (oi := _) (v := ?v21b_9) rfl (by kernel_rfl) (by kernel_rfl) (by kernel_rfl) (by kernel_rfl) (fun _ _ _ h => h) (Or.inl ⟨by rfl, ?hy21b_9⟩) (by assumption) ?rest21b_9
                  case hy21b_9 => ((intro w hSw; (try dsimp only at hSw); go_simp); (try with_reducible rfl))
                  (try simp only [Act.put, Array.getInternal_eq_getElem, List.getElem_toArray, List.getElem_cons_zero, List.getElem_cons_succ, List.setIfInBounds_toArray, List.set_cons_zero, List.set_cons_succ])
                  refine wpAnyC_one (i := 10) (o := _) (by kernel_rfl) rfl (fun K hK => ?_)
                  go_simp
                  refine hK.out _ _ (HS.out _ (hHeld.2.alloc _)) (fun hHeld => ?_)
                  clear hK K
                  (try simp only [Act.put, Array.getInternal_eq_getElem, List.getElem_toArray, List.getElem_cons_zero, List.getElem_cons_succ, List.setIfInBounds_toArray, List.set_cons_zero, List.set_cons_succ])
                  refine wpAnyC_one (i := 11) (o := _) (by kernel_rfl) rfl (fun K hK => ?_)
                  refine step_append_two _ (by rfl) (.tmp 117) (.tmp 123) 132 (by rfl) (wA.heap.size + 1) 170 _ 13 104 info170 Try.underlying132 rfl (by decide) (.slice Ap P.length cp) P.length ((List.range (P.length * 13)).map (pF P sn0 tn0)) (by rfl) (HROW.out.alloc _) w2.heap.size 1 [.int .i64 t, .int .i64 (k : Int), .int .i64 (k : Int), .int .i64 (-1), .int .i64 0, .int .i64 0, .int .i64 0, .int .i64 0, .int .i64 0, .int .i64 0, .int .i64 0, .int .i64 0, .int .i64 0] (by rfl) (heap_at _ _ _ (by simp)) rfl (by simp [Value.oneCell']) (by omega) (by omega) (by simp; omega) ?_
                  intro g cap2 w3 hown3 hlt3 htwo
                  have hgr : w2.grownBy w3 (Value.slice Ap P.length cp).ownBlock := grown_trans (grown_trans (grown_drew _ _) (World.grownBy_alloc _ _ _)) (two_grown htwo)
                  refine hK.out _ _ (HS.out _ ((Ex.refl w2 _).grown hgr (fun _ h _ => h))) (fun hHeld => ?_)
                  clear hK K
                  (try simp only [Act.put, Array.getInternal_eq_getElem, List.getElem_toArray, List.getElem_cons_zero, List.getElem_cons_succ, List.setIfInBounds_toArray, List.set_cons_zero, List.set_cons_succ])
                  refine wpAnyC_take [14, 13] (i := 12) (oi := _) (v := ?v21b_12) rfl (by kernel_rfl) (by kernel_rfl) (by kernel_rfl) (by kernel_rfl) (fun _ _ _ h => h) (Or.inl ⟨by rfl, ?hy21b_12⟩) (by assumption) ?rest21b_12
                  case hy21b_12 => ((intro w hSw; (try dsimp only at hSw); go_simp); (try with_reducible rfl))
                  (try simp only [Act.put, Array.getInternal_eq_getElem, List.getElem_toArray, List.getElem_cons_zero, List.getElem_cons_succ, List.setIfInBounds_toArray, List.set_cons_zero, List.set_cons_succ])
                  refine wpAnyC_take [14] (i := 13) (oi := _) (v := ?v21b_13) rfl (by kernel_rfl) (by kernel_rfl) (by kernel_rfl) (by kernel_rfl) (fun _ _ _ h => h) (Or.inl ⟨by rfl, ?hy21b_13⟩) (by assumption) ?rest21b_13
                  case hy21b_13 => ((intro w hSw; (try dsimp only at hSw); go_simp); (try with_reducible rfl))
                  (try simp only [Act.put, Array.getInternal_eq_getElem, List.getElem_toArray, List.getElem_cons_zero, List.getElem_cons_succ, List.setIfInBounds_toArray, List.set_cons_zero, List.set_cons_succ])
                  refine wpAnyC_last (o := _) (by kernel_rfl) rfl (fun K hK => ?_)
                  go_simp
                  refine hK.out _ _ ?_
                  clear hK K
                  refine wpAnyC_done (by kernel_rfl) ?_ _
                  have HL3 := Lib.hid (HL2.out.push hBA ⟨t, k, k, -1⟩ hgr hown3)
                  clear hgr hown3 hlt3 htwo HL2 HROW HS
                  go_wp2
                  go_roundw
                  case rel => exact ⟨k + 1, some ⟨g, 0, none⟩, cap2, P ++ [⟨t, k, k, -1⟩], hlt, by simp; omega, by go_num, HPX.out _ rfl (by decide), HL3⟩
                  case measure => simp [intOf]; omega
              · have k1 : (kd == 10) = false := by simpa using fun h => hp (.inl h)
                have k2 : (kd == 11) = false := by simpa using fun h => hp (.inr h)
                have HP2 := Lib.hid (HPN.out hp)
                clear hp
                go_wp2
                rw [← HW2.out]
                go_roundw
                case rel => exact ⟨k + 1, Ap, cp, P, hlt, by omega, by go_num, HP2, HL2⟩
                case measure => simp [intOf]; omega
            · obtain rfl : k = l.length := by omega
              have HPE := Lib.hid (show P = pts l bl from HP.out)
              have HW := Lib.hid (WC.of_ HA.out HL.out HOP.out)
              have hlim := HW.out.sz
              generalize wA.heap.size = lim at *
              have HOF := HOP
              clear HL HA HP HOP HOF
              generalize wr = wM at *
              have hwd : Ex wM (wM.alloc (.cells #[.slice none 0 0, .slice none 0 0, .slice none 0 0, .slice none 0 0, .slice none 0 0, .slice none 0 0, .slice none 0 0, .slice none 0 0] 171)) (fun _ => False) := (Ex.refl wM _).alloc _
              have hvar := HW.out.var
              have hvar1 := (HW.out.keep hwd (fun _ _ h => h)).var
              have hw1 := (HW.out.keep hwd (fun _ _ h => h)).web0
              have hmk := Go.run_make_row' (P := Try.prog) 31 3 (.int .i64 0) 8 Try.underlying31 info3 rfl .i64 .i64 P.length (by omega) (by omega)
              go_wp2
              obtain ⟨wD, hwD⟩ : ∃ wD, wD = (wM.alloc (.cells #[.slice none 0 0, .slice none 0 0, .slice none 0 0, .slice none 0 0, .slice none 0 0, .slice none 0 0, .slice none 0 0, .slice none 0 0] 171)).alloc (.cells (madeCells #[.int .i64 0] P.length) 3) := ⟨_, rfl⟩
              rw [← hwD]
              have hszD : wD.heap.size = wM.heap.size + 2 := by rw [hwD]; simp
              have hExD : Ex wM wD (fun j => wM.heap.size ≤ j) := by rw [hwD]; exact ((Ex.refl wM _).alloc _).alloc _
              have hOw : Blk wD wM.heap.size 171 wM.heap.size 8 (fun _ => .slice none 0 0) := by rw [hwD]; exact (Blk.eight wM).kept (Below.heap_alloc _ _ _ (by simp))
              have hBt : OwnI wD (wM.heap.size + 1) (some ⟨wM.heap.size + 1, 0, none⟩) P.length (upto P.length 0) := by
                have := OwnI.made (wM.alloc (.cells #[.slice none 0 0, .slice none 0 0, .slice none 0 0, .slice none 0 0, .slice none 0 0, .slice none 0 0, .slice none 0 0, .slice none 0 0] 171)) P.length (by unfold maxLen; omega)
                rw [hwD, upto_zero]
                simpa using this
              have HSD := Lib.hid hszD
              have HED := Lib.hid hExD
              have HOW := Lib.hid hOw
              have HBT := Lib.hid hBt
              clear hszD hExD hOw hBt hwD hwd hvar hvar1 hw1 hmk
              go_loopw [136] (fun i w4 => ∃ k : Nat, k ≤ P.length ∧ i = .int .i64 k ∧ Hid (OwnI w4 (wM.heap.size + 1) (some ⟨wM.heap.size + 1, 0, none⟩) P.length (upto P.length k)) ∧ Hid (Ex wD w4 (fun j => j = wM.heap.size + 1))) (fun i _ => P.length - (intOf i).toNat)
              case atStart => exact ⟨0, Nat.zero_le _, rfl, HBT, Ex.refl _ _⟩
              case round =>
                clear HBT
                obtain ⟨k, hkn, rfl, HBT, HE4⟩ := hrel
                by_cases hlt : k < P.length
                · obtain ⟨x, hx, hof, hfz⟩ := HBT.out.get (j := k) (by rw [upto_len]; exact hlt)
                  have i1 : (0 : Int) ≤ (k : Int) := by omega
                  have i2 : (k : Int) < (P.length : Int) := by omega
                  have HB2 := HBT.out.setAt k (k : Int)
                  rw [upto_step] at HB2
                  have HB3 := Lib.hid HB2
                  clear hx HBT HB2
                  go_wp2
                  go_roundw
                  case rel => exact ⟨k + 1, hlt, by go_num, HB3, HE4.out.set _ _ (fun _ => rfl)⟩
                  case measure => simp [intOf]; omega
                · obtain rfl : k = P.length := by omega
                  have hEM : Ex wM wr (fun j => wM.heap.size ≤ j) := HED.out.trans (HE4.out.grow (fun j (h : j = wM.heap.size + 1) => (by omega : wM.heap.size ≤ j))) (fun j _ h => h)
                  have hW4 := HW.out.keep hEM (fun j h1 h2 => by omega)
                  have hvar := hW4.var
                  have hbt := HBT.out
                  rw [upto_end] at hbt
                  have hsort := sort_pts (gV := w.heap.size + 1 + 1) (gW := w.heap.size + 1) (base2 := wM.heap.size + 1) (fun p q hp hq he => by
                    rw [HPE.out] at hp hq he
                    exact pts_fi HF.out hp hq he) hvar hW4.web0 hW4.pm hbt (fun j => by
                      by_cases h : j < wM.heap.size + 1
                      · exact .inr (.inl h)
                      · refine .inr (.inr ⟨by have := HW.out.sz; omega, by have := HW.out.sz; omega, fun e => ?_⟩)
                        have := (World.ownsRow.lt HW.out.pm j (by rw [e]; rfl)).2
                        omega) (by omega)
                  have HSORT := Lib.hid hsort
                  have HEM := Lib.hid hEM
                  clear hsort hbt hW4 hvar hEM HBT
                  go_wp2_with (go_at_call 94; refine halt_ ?_)
                  refine Halt_.go ?_
                  refine HSORT.out.mono ?_
                  rintro e wC ⟨rfl, s, hs1, hs2, hs3, hs4, hg4⟩
                  have hEC : Ex wM wC (fun j => wM.heap.size ≤ j) := HEM.out.grown hg4 (fun j h1 h2 => by
                    have e : wM.heap.size + 1 = j := Option.some.inj h1
                    omega)
                  have hED : Ex wD wC (fun j => j = wM.heap.size + 1) := HE4.out.grown hg4 (fun j h1 _ => (Option.some.inj h1).symm)
                  have hszC := hED.size
                  rw [HSD.out] at hszC
                  have HWC := Lib.hid (HW.out.keep hEC (fun j h1 h2 => by omega))
                  have hOC : Blk wC wM.heap.size 171 wM.heap.size 8 (fun _ => .slice none 0 0) := HOW.out.kept (hED.block _ (by rw [HSD.out]; omega) (by omega))
                  have HOC := Lib.hid hOC
                  have HGP := Lib.hid (fun g (e : Ap = some ⟨g, 0, none⟩) => (World.ownsRow.lt HW.out.pm g (by rw [e]; rfl)).2)
                  have HS : Hid (Srt l bl s) := ⟨by rw [← HPE.out]; exact hs1, by rw [← HPE.out]; exact hs2⟩
                  have HBY := Lib.hid hs4
                  have HSL := Lib.hid hs3
                  have HSP := Lib.hid hs1
                  clear hEC hED hOC hs1 hs2 hs3 hs4 hg4 HSORT HEM HE4 HOW HED HSD HW HC
                  by_cases hN : 0 < P.length
                  · obtain ⟨gP, hAp, _, _⟩ := HWC.out.pm.form hN
                    subst hAp
                    have hgP : gP < wM.heap.size := HGP.out gP rfl
                    have HL := Lib.hid (L5.start s HWC.out HOC.out hgP (by have := HWC.out.sz; omega))
                    generalize wM.heap.size = gO at *
                    go_wp2
                    go_loopw [149] (fun i wr => ∃ (k : Nat) (hd5 : Nat → Value), k ≤ P.length ∧ i = .int .i64 k ∧ Hid (L5 wC wr (lim + 1) w.heap.size gP gO cp l.length P (tnK P s k) (fun t => ownP P (s.take k) t) hd5 (ofL l P (s.take k)))) (fun i _ => P.length - (intOf i).toNat)
                    case atStart => exact ⟨0, _, Nat.zero_le _, rfl, HL⟩
                    case round =>
                      clear HL
                      obtain ⟨k, hd5, hkn, rfl, HL⟩ := hrel
                      by_cases hlt : k < P.length
                      · obtain ⟨p, hp⟩ : ∃ p, s[k]? = some p := ⟨_, List.getElem?_eq_getElem (by rw [HSL.out]; exact hlt)⟩
                        have hpN : p < P.length := (HSP.out p).1 (List.mem_of_getElem? hp)
                        obtain ⟨x, hx, hby, _⟩ := HBY.out.get (j := k) (by rw [lks_len, HSL.out]; exact hlt)
                        have hxp : x = (p : Int) := by
                          have : (lks s)[k]? = some (p : Int) := by unfold lks; rw [List.getElem?_map, hp]; rfl
                          rw [this] at hx
                          exact (Option.some.inj hx).symm
                        subst hxp
                        obtain ⟨T, hT, hT8⟩ : ∃ T : Nat, (ptAt P p).th = (T : Int) ∧ T < 8 := by
                          have := pts_thr HF.out HTH.out (p := p) (by rw [← HPE.out]; exact hpN)
                          rw [← HPE.out] at this
                          exact ⟨(ptAt P p).th.toNat, by omega, by omega⟩
                        have hTP : thP P p = T := by unfold thP; rw [hT]; simp
                        have hrng := pts_range HF.out (p := p) (by rw [← HPE.out]; exact hpN)
                        rw [← HPE.out] at hrng
                        have hsW := HL.out.ex.size
                        have hne := HL.out.ne
                        have hsz := HWC.out.sz
                        have c_by : wr.cell? ⟨gO + 1, k, none⟩ = some (.int .i64 (p : Int)) := (HL.out.ex.cell (p := ⟨gO + 1, k, none⟩) (by show gO + 1 < _; omega) (by show ¬ (gO + 1 = gP ∨ gO + 1 = gO ∨ gO + 1 = w.heap.size); omega)).trans hby
                        have hvar : wr.cell? ⟨w.heap.size + 2, 0, none⟩ = some (.pointer (some ⟨w.heap.size + 1, 0, none⟩)) := (HL.out.ex.cell (p := ⟨w.heap.size + 2, 0, none⟩) (by show w.heap.size + 2 < _; omega) (by show ¬ (w.heap.size + 2 = gP ∨ w.heap.size + 2 = gO ∨ w.heap.size + 2 = w.heap.size); omega)).trans HWC.out.var
                        have hw0 : wr.cell? ⟨w.heap.size + 1, 0, none⟩ = some (.slice (some ⟨gP, 0, none⟩) P.length cp) := (HL.out.ex.cell (p := ⟨w.heap.size + 1, 0, none⟩) (by show w.heap.size + 1 < _; omega) (by show ¬ (w.heap.size + 1 = gP ∨ w.heap.size + 1 = gO ∨ w.heap.size + 1 = w.heap.size); omega)).trans HWC.out.web0
                        have hq0 := (HL.out.pm.at0 hpN).1
                        rw [hT] at hq0
                        have hq12 := HL.out.pm.cell hpN (show 12 < 13 by omega)
                        have hqf := HL.out.pm.frozen (p * 13 + 12)
                        have hp12 : pcell (ptAt P p) (sn0 p) (tnK P s k p) 12 = .int .i64 ((tnK P s k p : Nat) : Int) := by simp [pcell]
                        rw [hp12] at hq12
                        obtain ⟨tv, htv⟩ : ∃ tv : Int, ((tnK P s k p : Nat) : Int) = tv := ⟨_, rfl⟩
                        rw [htv] at hq12
                        have hrowT := HL.out.ow.row T hT8
                        obtain ⟨Aw, cw, hdT⟩ := own_shape hrowT
                        have hoT := (HL.out.ow.blk.cell hT8).1
                        rw [hdT] at hoT hrowT
                        have hmle : (ownP P (s.take k) T).length ≤ P.length := by
                          have h1 := ownP_len_le P (s.take k) T
                          have h2 := List.length_take_le k s
                          omega
                        obtain ⟨m5, hm5⟩ : ∃ m5, m5 = (ownP P (s.take k) T).length := ⟨_, rfl⟩
                        rw [← hm5] at hoT hrowT hdT hmle
                        have HL1 := Lib.hid (HL.out.turn p m5)
                        obtain ⟨w2, hw2⟩ : ∃ w2, w2 = wr.setCell ⟨gP, p * 13 + 12, none⟩ (.int .i64 (m5 : Int)) := ⟨_, rfl⟩
                        rw [← hw2] at HL1
                        have hq02 := (HL1.out.pm.at0 hpN).1
                        rw [hT] at hq02
                        have hoT2 := HL1.out.ow.blk.cell hT8
                        rw [hdT] at hoT2
                        have hrow2 := HL1.out.ow.row T hT8
                        rw [hdT] at hrow2
                        have hs2 := HL1.out.ex.size
                        have hmkS : ∀ W : World, Ex w2 W (fun j => (Value.slice Aw m5 cw).ownBlock = some j) → (W.cell? ⟨gP, p * 13, none⟩ = some (.int .i64 (T : Int)) ∧ W.cell? ⟨gO, T, none⟩ = some (.slice Aw m5 cw) ∧ W.frozen? ⟨gO, T, none⟩ = false) ∧ Ex w2 W (fun j => (Value.slice Aw m5 cw).ownBlock = some j) := fun W h => by
                          have hn : ∀ j, j < wC.heap.size → ¬ (Value.slice Aw m5 cw).ownBlock = some j := fun j hj e => by
                            have := (World.ownsRow.lt hrow2 j e).1
                            omega
                          exact ⟨⟨(h.cell (p := ⟨gP, p * 13, none⟩) (by show gP < _; omega) (hn _ (by show gP < _; omega))).trans hq02, (h.cell (p := ⟨gO, T, none⟩) (by show gO < _; omega) (hn _ (by show gO < _; omega))).trans hoT2.1, (World.frozen?_of_block (w := w2) (h.block gO (by omega) (hn _ (by omega)))).trans hoT2.2⟩, h⟩
                        have HROW : Hid (w2.drew.ownsRow wC.heap.size 3 1 (.slice Aw m5 cw) m5 (ints (lks (ownP P (s.take k) T)))) := by
                          rw [← hm5] at hrow2
                          exact own_keep hrow2 fun _ _ => rfl
                        have HSS := Lib.hid hmkS
                        have HM5 := Lib.hid hm5
                        have HDT := Lib.hid hdT
                        have HW2 := Lib.hid hw2
                        have HPK := Lib.hid hp
                        have HTT := Lib.hid (And.intro hT hTP)
                        have HRG := Lib.hid hrng
                        have i1 : (0 : Int) ≤ (k : Int) := by omega
                        have i2 : (k : Int) < (P.length : Int) := by omega
                        have i3 : (0 : Int) ≤ (p : Int) := by omega
                        have i4 : (p : Int) < (P.length : Int) := by omega
                        have i5 : (0 : Int) ≤ (T : Int) := by omega
                        have i6 : (T : Int) < 8 := by omega
                        have hpb : m5 ≤ 2097152 := by omega
                        clear hp hx hby hT hTP hrng hp12 htv hrowT hdT hm5 hw2 hq02 hoT2 hrow2 hmkS HL
                        go_wp2
                        rw [← HW2.out]
                        have hSt := HSS.out w2.drew (Ex.refl w2 _).drew
                        clear HW2 hq0 hq12 hqf hoT c_by hvar hw0
                        refine wp_region_C (S := fun W => (W.cell? ⟨gP, p * 13, none⟩ = some (.int .i64 (T : Int)) ∧ W.cell? ⟨gO, T, none⟩ = some (.slice Aw m5 cw) ∧ W.frozen? ⟨gO, T, none⟩ = false) ∧ Ex w2 W (fun j => (Value.slice Aw m5 cw).ownBlock = some j)) 14 (by kernel_rfl) hSt (fun hHeld => ?_)
                        refine wpAnyC_take [14] (i := 0) (oi := _) (v := ?v36_0) rfl (by kernel_rfl) (by kernel_rfl) (by kernel_rfl) (by kernel_rfl) (fun _ _ _ h => h) (Or.inl ⟨by rfl, ?hy36_0⟩) (by assumption) ?rest36_0
                        case hy36_0 => ((intro w hSw; (try dsimp only at hSw); go_simp); (try with_reducible rfl))
                        (try simp only [Act.put, Array.getInternal_eq_getElem, List.getElem_toArray, List.getElem_cons_zero, List.getElem_cons_succ, List.setIfInBounds_toArray, List.set_cons_zero, List.set_cons_succ])
                        refine wpAnyC_take [14] (i := 1) (oi := _) (v := ?v36_1) rfl (by kernel_rfl) (by kernel_rfl) (by kernel_rfl) (by kernel_rfl) (fun _ _ _ h => h) (Or.inl ⟨by rfl, ?hy36_1⟩) (by assumption) ?rest36_1
                        case hy36_1 => ((intro w hSw; (try dsimp only at hSw); go_simp); (try with_reducible rfl))
                        (try simp only [Act.put, Array.getInternal_eq_getElem, List.getElem_toArray, List.getElem_cons_zero, List.getElem_cons_succ, List.setIfInBounds_toArray, List.set_cons_zero, List.set_cons_succ])
                        refine wpAnyC_take [14] (i := 2) (oi := _) (v := ?v36_2) rfl (by kernel_rfl) (by kernel_rfl) (by kernel_rfl) (by kernel_rfl) (fun _ _ _ h => h) (Or.inl ⟨by rfl, ?hy36_2⟩) (by assumption) ?rest36_2
                        case hy36_2 => ((intro w hSw; (try dsimp only at hSw); go_simp); (try with_reducible rfl))
                        (try simp only [Act.put, Array.getInternal_eq_getElem, List.getElem_toArray, List.getElem_cons_zero, List.getElem_cons_succ, List.setIfInBounds_toArray, List.set_cons_zero, List.set_cons_succ])
                        refine wpAnyC_take [14] (i := 3) (oi := _) (v := ?v36_3) rfl (by kernel_rfl) (by kernel_rfl) (by kernel_rfl) (by kernel_rfl) (fun _ _ _ h => h) (Or.inl ⟨by rfl, ?hy36_3⟩) (by assumption) ?rest36_3
                        case hy36_3 => ((intro w hSw; (try dsimp only at hSw); go_simp); (try with_reducible rfl))
                        (try simp only [Act.put, Array.getInternal_eq_getElem, List.getElem_toArray, List.getElem_cons_zero, List.getElem_cons_succ, List.setIfInBounds_toArray, List.set_cons_zero, List.set_cons_succ])
                        refine wpAnyC_take [14] (i := 4) (oi := _) (v := ?v36_4) rfl (by kernel_rfl) (by kernel_rfl) (by kernel_rfl) (by kernel_rfl) (fun _ _ _ h => h) (Or.inl ⟨by rfl, ?hy36_4⟩) (by assumption) ?rest36_4
                        case hy36_4 => ((intro w hSw; (try dsimp only at hSw); go_simp); (try with_reducible rfl))
                        (try simp only [Act.put, Array.getInternal_eq_getElem, List.getElem_toArray, List.getElem_cons_zero, List.getElem_cons_succ, List.setIfInBounds_toArray, List.set_cons_zero, List.set_cons_succ])
                        refine wpAnyC_take [14] (i := 5) (oi := _) (v := ?v36_5) rfl (by kernel_rfl) (by kernel_rfl) (by kernel_rfl) (by kernel_rfl) (fun _ _ _ h => h) (Or.inl ⟨by rfl, ?hy36_5⟩) (by assumption) ?rest36_5
                        case hy36_5 => ((intro w hSw; (try dsimp only at hSw); go_simp); (try with_reducible rfl))
                        (try simp only [Act.put, Array.getInternal_eq_getElem, List.getElem_toArray, List.getElem_cons_zero, List.getElem_cons_succ, List.setIfInBounds_toArray, List.set_cons_zero, List.set_cons_succ])
                        refine wpAnyC_take [14] (i := 6) (oi := _) (v := ?v36_6) rfl (by kernel_rfl) (by kernel_rfl) (by kernel_rfl) (by kernel_rfl) (fun _ _ _ h => h) (Or.inl ⟨by rfl, ?hy36_6⟩) (by assumption) ?rest36_6
                        case hy36_6 => ((intro w hSw; (try dsimp only at hSw); go_simp); (try with_reducible rfl))
                        (try simp only [Act.put, Array.getInternal_eq_getElem, List.getElem_toArray, List.getElem_cons_zero, List.getElem_cons_succ, List.setIfInBounds_toArray, List.set_cons_zero, List.set_cons_succ])
                        refine wpAnyC_take [14] (i := 7) (oi := _) (v := ?v36_7) rfl (by kernel_rfl) (by kernel_rfl) (by kernel_rfl) (by kernel_rfl) (fun _ _ _ h => h) (Or.inl ⟨by rfl, ?hy36_7⟩) (by assumption) ?rest36_7
                        case hy36_7 => ((intro w hSw; (try dsimp only at hSw); go_simp); (try with_reducible rfl))
                        (try simp only [Act.put, Array.getInternal_eq_getElem, List.getElem_toArray, List.getElem_cons_zero, List.getElem_cons_succ, List.setIfInBounds_toArray, List.set_cons_zero, List.set_cons_succ])
                        refine wpAnyC_take [14] (i := 8) (oi := _) (v := ?v36_8) rfl (by kernel_rfl) (by kernel_rfl) (by kernel_rfl) (by kernel_rfl) (fun _ _ _ h => h) (Or.inl ⟨by rfl, ?hy36_8⟩) (by assumption) ?rest36_8
                        case hy36_8 => ((intro w hSw; (try dsimp only at hSw); go_simp); (try with_reducible rfl))
                        (try simp only [Act.put, Array.getInternal_eq_getElem, List.getElem_toArray, List.getElem_cons_zero, List.getElem_cons_succ, List.setIfInBounds_toArray, List.set_cons_zero, List.set_cons_succ])
                        refine wpAnyC_take [14] (i := 9) (oi := _) (v := ?v36_9) rfl (by kernel_rfl) (by kernel_rfl) (by kernel_rfl) (by kernel_rfl) (fun _ _ _ h => h) (Or.inl ⟨by rfl, ?hy36_9⟩) (by assumption) ?rest36_9
                        case hy36_9 => ((intro w hSw; (try dsimp only at hSw); go_simp); (try with_reducible rfl))
                        (try simp only [Act.put, Array.getInternal_eq_getElem, List.getElem_toArray, List.getElem_cons_zero, List.getElem_cons_succ, List.setIfInBounds_toArray, List.set_cons_zero, List.set_cons_succ])
                        refine wpAnyC_take [14] (i := 10) (oi := _) (v := ?v36_10) rfl (by kernel_rfl) (by kernel_rfl) (by kernel_rfl) (by kernel_rfl) (fun _ _ _ h => h) (Or.inl ⟨by rfl, ?hy36_10⟩) (by assumption) ?rest36_10
                        case hy36_10 => ((intro w hSw; (try dsimp only at hSw); go_simp); (try with_reducible rfl))
                        (try simp only [Act.put, Array.getInternal_eq_getElem, List.getElem_toArray, List.getElem_cons_zero, List.getElem_cons_succ, List.setIfInBounds_toArray, List.set_cons_zero, List.set_cons_succ])
                        refine wpAnyC_one (i := 11) (o := _) (by kernel_rfl) rfl (fun K hK => ?_)
                        go_simp
                        refine hK.out _ _ (HSS.out _ (hHeld.2.alloc _)) (fun hHeld => ?_)
                        clear hK K
                        (try simp only [Act.put, Array.getInternal_eq_getElem, List.getElem_toArray, List.getElem_cons_zero, List.getElem_cons_succ, List.setIfInBounds_toArray, List.set_cons_zero, List.set_cons_succ])
                        refine wpAnyC_one (i := 12) (o := _) (by kernel_rfl) rfl (fun K hK => ?_)
                        refine step_append_two _ (by rfl) (.tmp 178) (.tmp 180) 31 (by rfl) wC.heap.size 3 _ 1 8 info3 Try.underlying31 rfl (by decide) (.slice Aw m5 cw) m5 (ints (lks (ownP P (s.take k) T))) (by rfl) (HROW.out.alloc _) w2.heap.size 1 [.int .i64 (p : Int)] (by rfl) (heap_at _ _ _ (by simp)) rfl (by simp [Value.oneCell']) (by omega) (by omega) (by simp; omega) ?_
                        intro g cap2 w3 hown3 hlt3 htwo
                        have hgr : w2.grownBy w3 (Value.slice Aw m5 cw).ownBlock := grown_trans (grown_trans (grown_drew _ _) (World.grownBy_alloc _ _ _)) (two_grown htwo)
                        refine hK.out _ _ (HSS.out _ ((Ex.refl w2 _).grown hgr (fun _ h _ => h))) (fun hHeld => ?_)
                        clear hK K
                        (try simp only [Act.put, Array.getInternal_eq_getElem, List.getElem_toArray, List.getElem_cons_zero, List.getElem_cons_succ, List.setIfInBounds_toArray, List.set_cons_zero, List.set_cons_succ])
                        refine wpAnyC_take [14] (i := 13) (oi := _) (v := ?v36_13) rfl (by kernel_rfl) (by kernel_rfl) (by kernel_rfl) (by kernel_rfl) (fun _ _ _ h => h) (Or.inl ⟨by rfl, ?hy36_13⟩) (by assumption) ?rest36_13
                        case hy36_13 => ((intro w hSw; (try dsimp only at hSw); go_simp); (try with_reducible rfl))
                        (try simp only [Act.put, Array.getInternal_eq_getElem, List.getElem_toArray, List.getElem_cons_zero, List.getElem_cons_succ, List.setIfInBounds_toArray, List.set_cons_zero, List.set_cons_succ])
                        refine wpAnyC_last (o := _) (by kernel_rfl) rfl (fun K hK => ?_)
                        go_simp
                        refine hK.out _ _ ?_
                        clear hK K
                        refine wpAnyC_done (by kernel_rfl) ?_ _
                        have hvO : (Value.slice (some ⟨g, 0, none⟩) (m5 + 1) cap2).ownBlock = (hd5 T).ownBlock ∨ ∃ j, (Value.slice (some ⟨g, 0, none⟩) (m5 + 1) cap2).ownBlock = some j ∧ w2.heap.size ≤ j := by
                          rw [HDT.out]
                          rcases htwo with h | h
                          · exact .inl h.1.symm
                          · refine .inr ⟨g, rfl, ?_⟩
                            rw [h.1]
                            simp
                        have HL3 := Lib.hid (HL1.out.push (t := T) (p := p) hT8 (by rw [HDT.out]; exact hgr) (by rw [← HM5.out]; exact hown3) hvO)
                        have hq1 := (HL3.out.pm.at0 hpN).2.1
                        clear hgr hown3 hlt3 htwo hvO HL1 HROW HSS
                        obtain ⟨w4, hw4⟩ : ∃ w4, w4 = w3.setCell ⟨gO, T, none⟩ (.slice (some ⟨g, 0, none⟩) (m5 + 1) cap2) := ⟨_, rfl⟩
                        rw [← hw4] at HL3 hq1
                        obtain ⟨tn1, htn1⟩ : ∃ f : Nat → Nat, f = (fun i => if i = p then m5 else tnK P s k i) := ⟨_, rfl⟩
                        rw [← htn1] at HL3
                        obtain ⟨own1, hown1⟩ : ∃ f : Nat → List Nat, f = (fun i => if i = T then ownP P (s.take k) T ++ [p] else ownP P (s.take k) i) := ⟨_, rfl⟩
                        rw [← hown1] at HL3
                        obtain ⟨hd1, hhd1⟩ : ∃ f : Nat → Value, f = (fun i => if i = T then .slice (some ⟨g, 0, none⟩) (m5 + 1) cap2 else hd5 i) := ⟨_, rfl⟩
                        rw [← hhd1] at HL3
                        have HTN1 := Lib.hid htn1
                        have HOW1 := Lib.hid hown1
                        clear htn1 hown1 hhd1
                        rw [← hw4]
                        clear hw4
                        go_wp2
                        clear hq1
                        generalize hfi : (ptAt P p).fi = fi at *
                        generalize hla : (ptAt P p).la = la at *
                        have HFI := Lib.hid hfi
                        have HLA := Lib.hid hla
                        have HLX : Hid (L5 wC w4 (lim + 1) w.heap.size gP gO cp l.length P tn1 own1 hd1 (ofU l P (s.take k) p fi)) := by
                          rw [← hfi, ofU_start]
                          exact HL3.out
                        clear hfi hla HL3
                        go_loopw [18] (fun i wr => ∃ j : Nat, fi ≤ j ∧ j ≤ la + 1 ∧ i = .int .i64 j ∧ Hid (L5 wC wr (lim + 1) w.heap.size gP gO cp l.length P tn1 own1 hd1 (ofU l P (s.take k) p j))) (fun i _ => la + 1 - (intOf i).toNat)
                        case atStart => exact ⟨fi, Nat.le_refl _, by have := HRG.out.1; omega, rfl, HLX⟩
                        case round =>
                          clear HLX
                          obtain ⟨j, hfj, hjl, rfl, HL⟩ := hrel
                          have hq2 := (HL.out.pm.at0 hpN).2.2.1
                          rw [HLA.out] at hq2
                          by_cases hjt : j ≤ la
                          · have hjn : j < l.length := by have := HRG.out.2; omega
                            have hne := HL.out.ne
                            have hsW := HL.out.ex.size
                            have hsz := HWC.out.sz
                            obtain ⟨eb, eo, e, hA, heb, he, hwd, e0, e1, e2, e3, e4, e5⟩ := (HWC.out.ev.keep (w' := wr) fun q hq => HL.out.ex.cell (p := q) (by omega) (by show ¬ (q.block = gP ∨ q.block = gO ∨ q.block = w.heap.size); omega)).at_ (Below.refl _ _) hjn
                            subst hA
                            have HE := Lib.hid he.out
                            obtain ⟨t, kd, ad, x, ow, er⟩ := e
                            simp only at e0 e1 e2 e3 e4 e5
                            have hq0 := (HL.out.pm.at0 hpN).1
                            rw [HTT.out.1] at hq0
                            obtain ⟨x, hx, hof, hfz⟩ := HL.out.of.get (j := j) (by rw [ofU_len]; exact hjn)
                            have hvar : wr.cell? ⟨w.heap.size + 2, 0, none⟩ = some (.pointer (some ⟨w.heap.size + 1, 0, none⟩)) := (HL.out.ex.cell (p := ⟨w.heap.size + 2, 0, none⟩) (by show w.heap.size + 2 < _; omega) (by show ¬ (w.heap.size + 2 = gP ∨ w.heap.size + 2 = gO ∨ w.heap.size + 2 = w.heap.size); omega)).trans HWC.out.var
                            have hw1 : wr.cell? ⟨w.heap.size + 1, 1, none⟩ = some (.slice (some ⟨w.heap.size, 0, none⟩) l.length l.length) := (HL.out.ex.cell (p := ⟨w.heap.size + 1, 1, none⟩) (by show w.heap.size + 1 < _; omega) (by show ¬ (w.heap.size + 1 = gP ∨ w.heap.size + 1 = gO ∨ w.heap.size + 1 = w.heap.size); omega)).trans HWC.out.web1
                            have i7 : (j : Int) ≤ (la : Int) := by omega
                            have i8 : (0 : Int) ≤ (j : Int) := by omega
                            have i9 : (j : Int) < (l.length : Int) := by omega
                            have HJ := Lib.hid (And.intro hfj hjt)
                            have hj1 : fi ≤ j + 1 ∧ j + 1 ≤ la + 1 := by omega
                            clear hx hwd he hjt hjl hfj
                            by_cases htT : t = (T : Int)
                            · subst htT
                              have HHE : HasE l P p j := by
                                refine ⟨by rw [HFI.out]; exact HJ.out.1, by rw [HLA.out]; exact HJ.out.2, ?_⟩
                                rw [HTT.out.1]
                                simp [List.getD, HE.out]
                              go_wp2
                              go_quiet (fail)
                              have HL2 := (HL.out.drewN nq).off j (p : Int)
                              rw [ofU_hit HHE] at HL2
                              have HL3 := Lib.hid HL2
                              have hof2 : (wr.drewN nq).cell? ⟨w.heap.size, j, none⟩ = some (.int .i64 x) := hof
                              have hfz2 : (wr.drewN nq).frozen? ⟨w.heap.size, j, none⟩ = false := hfz
                              have hvar2 : (wr.drewN nq).cell? ⟨w.heap.size + 2, 0, none⟩ = some (.pointer (some ⟨w.heap.size + 1, 0, none⟩)) := hvar
                              have hw12 : (wr.drewN nq).cell? ⟨w.heap.size + 1, 1, none⟩ = some (.slice (some ⟨w.heap.size, 0, none⟩) l.length l.length) := hw1
                              clear HL2 HL hof hfz hvar hw1 e0 e1 e2 e3 e4 e5 hq0 hq2 HHE
                              generalize wr.drewN nq = w6 at *
                              go_wp2
                              go_roundw
                              case rel => exact ⟨j + 1, hj1.1, hj1.2, by go_num, HL3⟩
                              case measure => simp [intOf]; omega
                            · have k1 : (t == (T : Int)) = false := by simpa using htT
                              have HHE : ¬ HasE l P p j := by
                                rintro ⟨_, _, h⟩
                                rw [HTT.out.1] at h
                                apply htT
                                simpa [List.getD, HE.out] using h
                              have HL2 := HL.out
                              rw [ofU_miss HHE] at HL2
                              have HL3 := Lib.hid HL2
                              clear HL2 HL HHE htT
                              go_wp2
                              go_quiet (fail)
                              go_wp2
                              go_roundw
                              case rel => exact ⟨j + 1, hj1.1, hj1.2, by go_num, HL3.out.drewN nq⟩
                              case measure => simp [intOf]; omega
                          · obtain rfl : j = la + 1 := by omega
                            have i7 : ¬ ((la : Int) + 1 ≤ (la : Int)) := by omega
                            have hL := HL.out
                            have hend := ofU_end (s := s.take k) HF.out (fun q hq => by rw [← HPE.out]; exact (HSP.out q).1 (List.mem_of_mem_take hq)) (p := p) (by rw [← HPE.out]; exact hpN)
                            rw [← HPE.out, HLA.out] at hend
                            have hstep := fun q => HS.out.tnK_step HPK.out q
                            rw [← HPE.out, HTT.out.2, ← HM5.out] at hstep
                            have htn : tn1 = tnK P s (k + 1) := by rw [HTN1.out]; exact funext hstep
                            have how : own1 = fun t => ownP P (s.take (k + 1)) t := by
                              rw [HOW1.out]
                              funext i
                              rw [take_step HPK.out, ownP_snoc, HTT.out.2]
                              by_cases e : i = T
                              · rw [if_pos e, if_pos e, e]
                              · rw [if_neg e, if_neg e]
                            rw [hend, htn, how, ← take_step HPK.out] at hL
                            have HL2 := Lib.hid hL
                            clear hL hend hstep htn how HL
                            go_wp2
                            go_roundw
                            case rel => exact ⟨k + 1, hd1, hlt, by go_num, HL2⟩
                            case measure => simp [intOf]; omega
                      · obtain rfl : k = P.length := by omega
                        have htk : s.take P.length = s := by rw [← HSL.out]; exact List.take_length
                        have hL := HL.out
                        rw [htk] at hL
                        have htn : ∀ i, i < P.length → tnK P s P.length i = tnP P s i := fun i hi => by
                          have := HS.out.tnK_end (q := i) (by rw [← HPE.out]; exact hi)
                          rw [← HPE.out, HSL.out] at this
                          exact this
                        have hU := UpI.start HWC.out hL htn hgP
                        have HCA : Hid (Cal P.length (thP P) (tnP P s) (ownP P s) (sgP bl lk)) := by
                          have := cal_ok HF.out HPT.out HTH.out HS.out
                          rw [← HPE.out] at this
                          exact this
                        have HCB : Hid (CalB P (tnP P s) (ownP P s)) := by
                          have := calB_ok HF.out HTH.out HS.out (by rw [HSL.out]; omega)
                          rw [← HPE.out] at this
                          exact this
                        have HCK := Lib.hid (CkI.start HCA.out)
                        have HSG := Lib.hid (fun (j p : Nat) (h : (sgP bl lk)[j]? = some p) => sgP_at h)
                        have HSN := Lib.hid (sgP_len bl lk)
                        have hosl := ordS_len_le bl lk
                        have hne := hL.ne
                        have hsz := HWC.out.sz
                        have hsW := hL.ex.size
                        have hE : Ex wr (wr.alloc (.cells #[.int .i64 0, .int .i64 0, .int .i64 0, .int .i64 0, .int .i64 0, .int .i64 0, .int .i64 0, .int .i64 0] 168)) (fun _ => False) := (Ex.refl wr _).alloc _
                        have hpl : PlM wr lim m (plO bl bl.length) := HWC.out.pl.kept (hL.ex.block lim (by omega) (by
                          have := (World.ownsRow.lt HWC.out.pm gP rfl).1
                          rintro (h | h | h) <;> omega))
                        have hor : OwnI wr (w.heap.size + 3) Ao co (lks (ordS bl lk bl.length)) := own_keep HWC.out.ord fun g hg => hL.ex.block g (World.ownsRow.lt HWC.out.ord g hg).2 (by
                          have h1 := (World.ownsRow.lt HWC.out.ord g hg).1
                          have h2 := HWC.out.ordL g hg
                          have h3 := (World.ownsRow.lt HWC.out.pm gP rfl).1
                          rintro (h | h | h) <;> omega)
                        have HPL := Lib.hid (hpl.kept (hE.block lim hpl.lt (fun h => h)))
                        have HORD : Hid (OwnI (wr.alloc (.cells #[.int .i64 0, .int .i64 0, .int .i64 0, .int .i64 0, .int .i64 0, .int .i64 0, .int .i64 0, .int .i64 0] 168)) (w.heap.size + 3) Ao co (lks (ordS bl lk bl.length))) := own_keep hor fun g hg => hE.block g (World.ownsRow.lt hor g hg).2 (fun h => h)
                        have HLL := Lib.hid hL
                        have HU := Lib.hid hU
                        have HGD := Lib.hid (show gP < wr.heap.size ∧ lim < gP ∧ gO < wr.heap.size ∧ gP < gO by have := (World.ownsRow.lt HWC.out.pm gP rfl).1; omega)
                        clear hL htn hU hE hpl hor htk HL hne hsW hsz HBY
                        go_wp2
                        obtain ⟨wE, hwE⟩ : ∃ wE, wE = wr.alloc (.cells #[.int .i64 0, .int .i64 0, .int .i64 0, .int .i64 0, .int .i64 0, .int .i64 0, .int .i64 0, .int .i64 0] 168) := ⟨_, rfl⟩
                        rw [← hwE]
                        rw [← hwE] at HPL HORD HU
                        have HWE := Lib.hid hwE
                        clear hwE
                        generalize htn9 : tnP P s = tn at *
                        have HTNE := Lib.hid htn9
                        clear htn9
                        generalize how9 : ownP P s = own at *
                        have HOWE := Lib.hid how9
                        clear how9
                        generalize hsg9 : sgP bl lk = sg at *
                        have HSGE := Lib.hid hsg9
                        clear hsg9
                        generalize hos : ordS bl lk bl.length = os at *
                        generalize wr = wL at *
                        have HK0 := Lib.hid (Kq.refl wE gP wL.heap.size)
                        go_loopw [216, 20] (fun i vl wr => ∃ (j : Nat) (st : Ck) (lv : Int), j ≤ os.length ∧ i = .int .i64 j ∧ vl = .int .i64 lv ∧ Hid (lv = lastV sg j) ∧ Hid (UpI wr (lim + 1) gP cp wL.heap.size gO (w.heap.size + 1 + 1) (w.heap.size + 1) P tn own st) ∧ Hid (Kq wE wr gP wL.heap.size) ∧ Hid (CkI P.length (thP P) tn own sg st j)) (fun i _ _ => os.length - (intOf i).toNat)
                        case atStart => exact ⟨0, _, -1, Nat.zero_le _, rfl, rfl, (lastV_zero sg).symm, HU, HK0, HCK⟩
                        case round =>
                          clear HU HK0 HCK
                          obtain ⟨j, st, lv, hjm, rfl, rfl, HLV, HU, HK, HCK⟩ := hrel
                          by_cases hlt : j < os.length
                          · obtain ⟨p, hp⟩ : ∃ p, sg[j]? = some p := ⟨_, List.getElem?_eq_getElem (by rw [HSN.out]; exact hlt)⟩
                            obtain ⟨k0, hk0, hkb, hov, hpk⟩ := HSG.out j p hp
                            have hpN := HCA.out.sg_lt _ _ hp
                            obtain ⟨hdle, htlt, hck2⟩ := ck_before HCA.out HCK.out hp
                            obtain ⟨T, hT, hT8⟩ : ∃ T : Nat, (ptAt P p).th = (T : Int) ∧ T < 8 := by
                              have := HCB.out.thr p hpN
                              exact ⟨(ptAt P p).th.toNat, by omega, by omega⟩
                            have hTP : thP P p = T := by unfold thP; rw [hT]; simp
                            rw [hTP] at hdle htlt hck2
                            obtain ⟨go, capo, hvo, hbo, hlo⟩ := World.ownsRow.form HORD.out (by rw [lks_len]; omega)
                            have hAo : Ao = some ⟨go, 0, none⟩ := by injection hvo
                            subst hAo
                            have hgl := HWC.out.ordL go rfl
                            have hgd := HGD.out
                            obtain ⟨x, hx, hoc, _⟩ := HORD.out.get (j := j) (by rw [lks_len]; exact hlt)
                            have hxk : x = (k0 : Int) := by
                              have : (lks os)[j]? = some (k0 : Int) := by unfold lks; rw [List.getElem?_map, hk0]; rfl
                              rw [this] at hx
                              exact (Option.some.inj hx).symm
                            subst hxk
                            have c_or : wr.cell? ⟨go, j, none⟩ = some (.int .i64 (k0 : Int)) := (World.cell?_of_block (w := wE) (HK.out.block go (by omega) (by omega))).trans hoc
                            have hplr : PlM wr lim m (plO bl bl.length) := HPL.out.kept (HK.out.block lim (by omega) (by omega))
                            have hkB : KB (k0 : Int) := ⟨by omega, by omega⟩
                            have hlk : plO bl bl.length (k0 : Int) = some p := by rw [plO_at hkb hov, hpk]
                            have hlook : ∀ q, (Instr.lookup 147 (.map (some lim)) (.int .i64 (k0 : Int)) false).run Try.prog (wr.drewN q) = .ok (.int .i64 (p : Int)) (wr.drewN q) := fun q => PlM.look (w := wr.drewN q) (hplr.kept rfl) hkB hlk
                            have hvar := HU.out.v
                            have hw0 := HU.out.p
                            have hq0 := (HU.out.pm.at0 hpN).1
                            rw [hT] at hq0
                            have hq12 := (HU.out.pm.at0 hpN).2.2.2.2
                            have i1 : (0 : Int) ≤ (j : Int) := by omega
                            have i2 : (j : Int) < (os.length : Int) := by omega
                            have i3 : (0 : Int) ≤ (p : Int) := by omega
                            have i4 : (p : Int) < (P.length : Int) := by omega
                            have i5 : (0 : Int) ≤ (T : Int) := by omega
                            have i6 : (T : Int) < 8 := by omega
                            have HPP := Lib.hid hp
                            have HTT := Lib.hid (And.intro hT hTP)
                            have HLK := Lib.hid (And.intro hkB hlk)
                            have HCK2 := Lib.hid hck2
                            clear hx hoc hvo hp hk0 hkb hov hpk hT hTP hck2 hlk HCK
                            go_wp2
                            go_quiet (fail)
                            have HU1 := Lib.hid (HU.out.drewN nq)
                            have HK1 := Lib.hid (HK.out.drewN nq)
                            have g1 : (wr.drewN nq).cell? ⟨gP, p * 13, none⟩ = some (.int .i64 (T : Int)) := hq0
                            have g2 : (wr.drewN nq).cell? ⟨gP, p * 13 + 12, none⟩ = some (.int .i64 ((tn p : Nat) : Int)) := hq12
                            clear hlook hvar hw0 hq0 hq12 c_or hplr HU HK
                            generalize wr.drewN nq = w4 at *
                            obtain ⟨tv, htv⟩ : ∃ tv, tn p = tv := ⟨_, rfl⟩
                            rw [htv] at g2 hdle htlt HCK2
                            have HTV := Lib.hid htv
                            have HUP := Lib.hid (up_any (lim + 1) gP cp wL.heap.size gO (w.heap.size + 1 + 1) (w.heap.size + 1) P tn own st T tv w4.drew HU1.out.drew HCB.out hT8 hdle (by omega))
                            have hcd := upN_dn (thP P) tn own st T (tv - st.dn T)
                            have hcd2 : st.dn T + (tv - st.dn T) = tv := by omega
                            rw [hcd2] at hcd
                            obtain ⟨c1, hc1⟩ : ∃ c1, upN (thP P) tn own st T (tv - st.dn T) = c1 := ⟨_, rfl⟩
                            rw [hc1] at HCK2 HUP hcd
                            have HC1 := Lib.hid hcd
                            have htb := HCB.out.len T
                            have HLC : Hid ((lv = -1 ∧ lastO sg j = none) ∨ ∃ q : Nat, lv = (q : Int) ∧ lastO sg j = some q ∧ q < P.length ∧ q ≠ p) := by
                              rcases last_cases sg (j := j) (by rw [HSN.out]; omega) with ⟨h1, h2⟩ | ⟨q, h1, h2, i, h3, h4⟩
                              · exact .inl ⟨by rw [HLV.out, h1], h2⟩
                              · refine .inr ⟨q, by rw [HLV.out, h1], h2, HCA.out.sg_lt _ _ h4, fun e => ?_⟩
                                subst e
                                have := HCA.out.sg_nd _ _ _ h4 HPP.out
                                omega
                            clear htv hc1 hcd hcd2 HU1 hdle
                            go_wp2
                            go_still_tail 9, (by kernel_rfl)
                            change wpList _ _ _ _ _ w4.drew
                            go_wp2_with (go_at_call 107; refine halt_ ?_)
                            refine Halt_.go ?_
                            refine HUP.out.mono ?_
                            rintro e' w5 ⟨rfl, hu5, hk5⟩
                            have HU5 := Lib.hid hu5
                            have HK5 := Lib.hid (HK1.out.drew.trans hk5)
                            have hq12 := (hu5.pm.at0 hpN).2.2.2.2
                            rw [HTV.out] at hq12
                            clear hu5 hk5 g1 g2 HUP HK1
                            by_cases hz : 0 < tv
                            · have hz1 : (0 : Int) < (tv : Int) := by omega
                              obtain ⟨A5, c5, ho1, ho2⟩ := HU5.out.ow.at_ T hT8
                              obtain ⟨b5, rfl, nb1, nb2, ho3⟩ := ho2 (by omega)
                              obtain ⟨q, hq⟩ : ∃ q, (own T)[tv - 1]? = some q := ⟨_, List.getElem?_eq_getElem (by omega)⟩
                              have hoq := ho3 _ _ hq
                              obtain ⟨hqN, hqT, hqt⟩ := HCA.out.own_of _ _ _ hq
                              have hpq : p ≠ q := by
                                intro e
                                subst e
                                rw [HTV.out] at hqt
                                omega
                              have hqth := HCB.out.thr q hqN
                              have hqtn := HCB.out.tn q
                              have hvar := HU5.out.v
                              have hw0 := HU5.out.p
                              have hq0 := (HU5.out.pm.at0 hpN).1
                              rw [HTT.out.1] at hq0
                              have hsn1 : jn (thP P) tn c1.sn p q = if 0 < tv then jn (thP P) tn c1.sn p ((own T).getD (tv - 1) 0) else c1.sn := by
                                rw [if_pos hz]
                                simp [List.getD, hq]
                              have HSN1 := Lib.hid hsn1
                              clear hsn1
                              have HQQ := Lib.hid (And.intro hpq (And.intro hqth hqtn))
                              have hw : IntKind.i64.wrap ((tv : Int) - 1) = ((tv - 1 : Nat) : Int) := by rw [IntKind.wrap_i64]; omega
                              have j5 : (0 : Int) ≤ ((tv - 1 : Nat) : Int) := Int.natCast_nonneg _
                              have j6 : ((tv - 1 : Nat) : Int) < (((own T).length : Nat) : Int) := Int.ofNat_lt.2 (by omega)
                              generalize hE : tv - 1 = E at *
                              have HE := Lib.hid hE
                              clear hE
                              have i8 : (0 : Int) ≤ (q : Int) := Int.natCast_nonneg q
                              have i9 : (q : Int) < ((P.length : Nat) : Int) := Int.ofNat_lt.2 hqN
                              clear ho2 ho3 nb1 nb2 hq hqT hqt hpq hqth hqtn
                              go_wp2
                              go_still_tail 19, (by kernel_rfl)
                              change wpList _ _ _ _ _ w5.drew
                              go_wp2_with (go_at_call 108; refine halt_ ?_)
                              refine Halt_.go ?_
                              refine (join_any (lim + 1) gP cp P _ tn p q w5.drew HU5.out.pm.drew hpN hqN HQQ.out.1 HQQ.out.2.1 HQQ.out.2.2).mono ?_
                              rintro e' w6 ⟨rfl, hpm6, hkp6⟩
                              have hkp7 : Kp w5 w6 gP (gP + 1) := ((Kp.refl w5 gP (gP + 1)).drew).trans hkp6
                              have HU6 := Lib.hid (HU5.out.joined hpm6 hkp7)
                              have HK6 := Lib.hid (HK5.out.trans (hkp7.kq (d := wL.heap.size)))
                              clear hpm6 hkp6 hkp7 HU5 HK5 hvar hw0 hq0 hq12 ho1 hoq i8 i9 j5 j6 hw HQQ hqN
                              generalize jn (thP P) tn c1.sn p q = sn1 at *
                              rcases HLC.out with ⟨hv, ho⟩ | ⟨q, hv, ho, hqN, hqp⟩
                              · subst hv
                                have hq0 := (HU6.out.pm.at0 hpN).1
                                rw [HTT.out.1] at hq0
                                have hq12 := (HU6.out.pm.at0 hpN).2.2.2.2
                                rw [HTV.out] at hq12
                                have hdn := HU6.out.dn.cell (j := T) hT8
                                rw [show (⟨sn1, c1.dn⟩ : Ck).dn T = tv from HC1.out] at hdn
                                go_wp2
                                have hu8 := (HU6.out.turn T (tv + 1)).drew
                                have hk8 := (HK6.out.setD T (.int .i64 ((tv + 1 : Nat) : Int))).drew
                                rw [show ((tv + 1 : Nat) : Int) = (tv : Int) + 1 by omega] at hu8 hk8
                                have hlook8 := PlM.look (HPL.out.kept (hk8.block lim (by have := HGD.out; omega) (by have := HGD.out; omega))) HLK.out.1 HLK.out.2
                                have HU8 := Lib.hid hu8
                                have HK8 := Lib.hid hk8
                                clear hu8 hk8
                                go_region
                                go_wp2
                                go_roundw
                                case rel =>
                                  have hb : blk1 (thP P) tn own c1 p (lastO sg j) = ⟨sn1, fun x => if x = T then tv + 1 else c1.dn x⟩ := by
                                    unfold blk1
                                    rw [ho]
                                    dsimp only
                                    rw [HTT.out.2, HTV.out, HE.out, ← HSN1.out]
                                  exact ⟨j + 1, blk1 (thP P) tn own c1 p (lastO sg j), (p : Int), hlt, by go_num, rfl, (lastV_succ HPP.out).symm, Lib.hid (by rw [hb]; exact HU8.out), HK8, CkI.block HCA.out HCK2.out HPP.out (by rw [HTT.out.2, HTV.out]; exact HC1.out) _ rfl⟩
                                case measure => simp [intOf]; omega
                              · subst hv
                                have hvar := HU6.out.v
                                have hw0 := HU6.out.p
                                have hq12 := (HU6.out.pm.at0 hpN).2.2.2.2
                                rw [HTV.out] at hq12
                                have i8 : (0 : Int) ≤ (q : Int) := Int.natCast_nonneg q
                                have i9 : (q : Int) < ((P.length : Nat) : Int) := Int.ofNat_lt.2 hqN
                                go_wp2_with (go_at_call 108; refine halt_ ?_)
                                refine Halt_.go ?_
                                refine (join_any (lim + 1) gP cp P sn1 tn p q w6 HU6.out.pm hpN hqN (Ne.symm hqp) (HCB.out.thr q hqN) (HCB.out.tn q)).mono ?_
                                rintro e' w7 ⟨rfl, hpm7, hkp7⟩
                                have HU7 := Lib.hid (HU6.out.joined hpm7 hkp7)
                                have HK7 := Lib.hid (HK6.out.trans (hkp7.kq (d := wL.heap.size)))
                                clear hpm7 hkp7 HU6 HK6 hvar hw0 hq12 i8 i9
                                obtain ⟨sn2, hsn2⟩ : ∃ f, jn (thP P) tn sn1 p q = f := ⟨_, rfl⟩
                                rw [hsn2] at HU7
                                have HS2 := Lib.hid hsn2
                                clear hsn2
                                have hq0 := (HU7.out.pm.at0 hpN).1
                                rw [HTT.out.1] at hq0
                                have hq12 := (HU7.out.pm.at0 hpN).2.2.2.2
                                rw [HTV.out] at hq12
                                have hdn := HU7.out.dn.cell (j := T) hT8
                                rw [show (⟨sn2, c1.dn⟩ : Ck).dn T = tv from HC1.out] at hdn
                                go_wp2
                                have hu8 := (HU7.out.turn T (tv + 1)).drew
                                have hk8 := (HK7.out.setD T (.int .i64 ((tv + 1 : Nat) : Int))).drew
                                rw [show ((tv + 1 : Nat) : Int) = (tv : Int) + 1 by omega] at hu8 hk8
                                have hlook8 := PlM.look (HPL.out.kept (hk8.block lim (by have := HGD.out; omega) (by have := HGD.out; omega))) HLK.out.1 HLK.out.2
                                have HU8 := Lib.hid hu8
                                have HK8 := Lib.hid hk8
                                clear hu8 hk8
                                go_region
                                go_wp2
                                go_roundw
                                case rel =>
                                  have hb : blk1 (thP P) tn own c1 p (lastO sg j) = ⟨sn2, fun x => if x = T then tv + 1 else c1.dn x⟩ := by
                                    unfold blk1
                                    rw [ho]
                                    dsimp only
                                    rw [HTT.out.2, HTV.out, HE.out, ← HSN1.out, HS2.out]
                                  exact ⟨j + 1, blk1 (thP P) tn own c1 p (lastO sg j), (p : Int), hlt, by go_num, rfl, (lastV_succ HPP.out).symm, Lib.hid (by rw [hb]; exact HU8.out), HK8, CkI.block HCA.out HCK2.out HPP.out (by rw [HTT.out.2, HTV.out]; exact HC1.out) _ rfl⟩
                                case measure => simp [intOf]; omega
                            · have hz1 : ¬ (0 : Int) < (tv : Int) := by omega
                              have HSN1 := Lib.hid (show c1.sn = if 0 < tv then jn (thP P) tn c1.sn p ((own T).getD (tv - 1) 0) else c1.sn by rw [if_neg hz])
                              obtain ⟨E, hE⟩ : ∃ E, tv - 1 = E := ⟨_, rfl⟩
                              rw [hE] at HSN1
                              have HE := Lib.hid hE
                              obtain ⟨w6, hw6⟩ : ∃ w6, w6 = w5 := ⟨_, rfl⟩
                              rw [← hw6]
                              rw [← hw6] at HU5 HK5
                              clear hw6 hq12 hE
                              have HU6 : Hid (UpI w6 (lim + 1) gP cp wL.heap.size gO (w.heap.size + 1 + 1) (w.heap.size + 1) P tn own ⟨c1.sn, c1.dn⟩) := HU5
                              have HK6 := HK5
                              clear HU5 HK5
                              obtain ⟨sn1, hsn1⟩ : ∃ f, c1.sn = f := ⟨_, rfl⟩
                              rw [hsn1] at HU6
                              have hx1 := HSN1.out
                              conv at hx1 => lhs; rw [hsn1]
                              replace HSN1 := Lib.hid hx1
                              clear hx1 hsn1
                              rcases HLC.out with ⟨hv, ho⟩ | ⟨q, hv, ho, hqN, hqp⟩
                              · subst hv
                                have hq0 := (HU6.out.pm.at0 hpN).1
                                rw [HTT.out.1] at hq0
                                have hq12 := (HU6.out.pm.at0 hpN).2.2.2.2
                                rw [HTV.out] at hq12
                                have hdn := HU6.out.dn.cell (j := T) hT8
                                rw [show (⟨sn1, c1.dn⟩ : Ck).dn T = tv from HC1.out] at hdn
                                go_wp2
                                have hu8 := (HU6.out.turn T (tv + 1)).drew
                                have hk8 := (HK6.out.setD T (.int .i64 ((tv + 1 : Nat) : Int))).drew
                                rw [show ((tv + 1 : Nat) : Int) = (tv : Int) + 1 by omega] at hu8 hk8
                                have hlook8 := PlM.look (HPL.out.kept (hk8.block lim (by have := HGD.out; omega) (by have := HGD.out; omega))) HLK.out.1 HLK.out.2
                                have HU8 := Lib.hid hu8
                                have HK8 := Lib.hid hk8
                                clear hu8 hk8
                                go_region
                                go_wp2
                                go_roundw
                                case rel =>
                                  have hb : blk1 (thP P) tn own c1 p (lastO sg j) = ⟨sn1, fun x => if x = T then tv + 1 else c1.dn x⟩ := by
                                    unfold blk1
                                    rw [ho]
                                    dsimp only
                                    rw [HTT.out.2, HTV.out, HE.out, ← HSN1.out]
                                  exact ⟨j + 1, blk1 (thP P) tn own c1 p (lastO sg j), (p : Int), hlt, by go_num, rfl, (lastV_succ HPP.out).symm, Lib.hid (by rw [hb]; exact HU8.out), HK8, CkI.block HCA.out HCK2.out HPP.out (by rw [HTT.out.2, HTV.out]; exact HC1.out) _ rfl⟩
                                case measure => simp [intOf]; omega
                              · subst hv
                                have hvar := HU6.out.v
                                have hw0 := HU6.out.p
                                have hq12 := (HU6.out.pm.at0 hpN).2.2.2.2
                                rw [HTV.out] at hq12
                                have i8 : (0 : Int) ≤ (q : Int) := Int.natCast_nonneg q
                                have i9 : (q : Int) < ((P.length : Nat) : Int) := Int.ofNat_lt.2 hqN
                                go_wp2_with (go_at_call 108; refine halt_ ?_)
                                refine Halt_.go ?_
                                refine (join_any (lim + 1) gP cp P sn1 tn p q w6 HU6.out.pm hpN hqN (Ne.symm hqp) (HCB.out.thr q hqN) (HCB.out.tn q)).mono ?_
                                rintro e' w7 ⟨rfl, hpm7, hkp7⟩
                                have HU7 := Lib.hid (HU6.out.joined hpm7 hkp7)
                                have HK7 := Lib.hid (HK6.out.trans (hkp7.kq (d := wL.heap.size)))
                                clear hpm7 hkp7 HU6 HK6 hvar hw0 hq12 i8 i9
                                obtain ⟨sn2, hsn2⟩ : ∃ f, jn (thP P) tn sn1 p q = f := ⟨_, rfl⟩
                                rw [hsn2] at HU7
                                have HS2 := Lib.hid hsn2
                                clear hsn2
                                have hq0 := (HU7.out.pm.at0 hpN).1
                                rw [HTT.out.1] at hq0
                                have hq12 := (HU7.out.pm.at0 hpN).2.2.2.2
                                rw [HTV.out] at hq12
                                have hdn := HU7.out.dn.cell (j := T) hT8
                                rw [show (⟨sn2, c1.dn⟩ : Ck).dn T = tv from HC1.out] at hdn
                                go_wp2
                                have hu8 := (HU7.out.turn T (tv + 1)).drew
                                have hk8 := (HK7.out.setD T (.int .i64 ((tv + 1 : Nat) : Int))).drew
                                rw [show ((tv + 1 : Nat) : Int) = (tv : Int) + 1 by omega] at hu8 hk8
                                have hlook8 := PlM.look (HPL.out.kept (hk8.block lim (by have := HGD.out; omega) (by have := HGD.out; omega))) HLK.out.1 HLK.out.2
                                have HU8 := Lib.hid hu8
                                have HK8 := Lib.hid hk8
                                clear hu8 hk8
                                go_region
                                go_wp2
                                go_roundw
                                case rel =>
                                  have hb : blk1 (thP P) tn own c1 p (lastO sg j) = ⟨sn2, fun x => if x = T then tv + 1 else c1.dn x⟩ := by
                                    unfold blk1
                                    rw [ho]
                                    dsimp only
                                    rw [HTT.out.2, HTV.out, HE.out, ← HSN1.out, HS2.out]
                                  exact ⟨j + 1, blk1 (thP P) tn own c1 p (lastO sg j), (p : Int), hlt, by go_num, rfl, (lastV_succ HPP.out).symm, Lib.hid (by rw [hb]; exact HU8.out), HK8, CkI.block HCA.out HCK2.out HPP.out (by rw [HTT.out.2, HTV.out]; exact HC1.out) _ rfl⟩
                                case measure => simp [intOf]; omega
                          · obtain rfl : j = os.length := by omega
                            go_wp2
                            go_loopw [287] (fun i wr => ∃ (t : Nat) (st : Ck), t ≤ 8 ∧ i = .int .i64 t ∧ Hid (UpI wr (lim + 1) gP cp wL.heap.size gO (w.heap.size + 1 + 1) (w.heap.size + 1) P tn own st) ∧ Hid (Kq wE wr gP wL.heap.size) ∧ Hid (CkI P.length (thP P) tn own sg st os.length) ∧ Hid (∀ u, u < t → st.dn u = (own u).length)) (fun i _ => 8 - (intOf i).toNat)
                            case atStart => exact ⟨0, st, by omega, rfl, HU, HK, HCK, fun u hu => absurd hu (Nat.not_lt_zero u)⟩
                            case round =>
                              clear HU HK HCK HLV
                              obtain ⟨t, st, ht8, rfl, HU, HK, HCK, HAL⟩ := hrel
                              by_cases hlt : t < 8
                              · obtain ⟨A5, c5, ho1, _⟩ := HU.out.ow.at_ t hlt
                                obtain ⟨hle, hck⟩ := ck_rest HCA.out HCK.out HSN.out.symm t
                                have htb := HCB.out.len t
                                have hcd := upN_dn (thP P) tn own st t ((own t).length - st.dn t)
                                have hcd2 : st.dn t + ((own t).length - st.dn t) = (own t).length := by omega
                                rw [hcd2] at hcd
                                have HALL : Hid (∀ u, u < t + 1 → (upN (thP P) tn own st t ((own t).length - st.dn t)).dn u = (own u).length) := fun u hu => by
                                  by_cases e : u = t
                                  · subst e
                                    exact hcd
                                  · rw [upN_other _ _ _ _ _ e]
                                    exact HAL.out u (by omega)
                                have HUP := Lib.hid (up_any (lim + 1) gP cp wL.heap.size gO (w.heap.size + 1 + 1) (w.heap.size + 1) P tn own st t (own t).length wr HU.out HCB.out hlt hle (Nat.le_refl _))
                                have HCK2 := Lib.hid hck
                                have i1 : (0 : Int) ≤ (t : Int) := by omega
                                have i2 : (t : Int) < 8 := by omega
                                clear hle hck hcd hcd2 HU HCK HAL
                                go_wp2_with (go_at_call 107; refine halt_ ?_)
                                refine Halt_.go ?_
                                refine HUP.out.mono ?_
                                rintro e' w5 ⟨rfl, hu5, hk5⟩
                                have HU5 := Lib.hid hu5
                                have HK5 := Lib.hid (HK.out.trans hk5)
                                clear hu5 hk5 HUP HK ho1
                                go_wp2
                                go_roundw
                                case rel => exact ⟨t + 1, _, by omega, by go_num, HU5, HK5, HCK2, HALL⟩
                                case measure => simp [intOf]; omega
                              · obtain rfl : t = 8 := by omega
                                have hvar := HU.out.v
                                have HFIN := Lib.hid (show Below w.heap.size w wr ∧ WebR wr wr.heap.size (w.heap.size + 1) w.heap.size (some ⟨gP, 0, none⟩) cp Ab cb hd l bl lk st.sn tn by
                                  have hU := HU.out
                                  have hC := HCK.out
                                  have hA := HAL.out
                                  have hK := HK.out
                                  have hL := HLL.out
                                  have hW := HWC.out
                                  have hE := HPE.out
                                  rw [HWE.out] at hK
                                  rw [← HTNE.out, ← HOWE.out] at hU hC
                                  rw [← HSGE.out] at hC
                                  rw [← HOWE.out] at hA
                                  rw [← HTNE.out]
                                  rw [hE] at hU hC hA hL hW ⊢
                                  exact WebR.of_ _ HF.out HPT.out HTH.out HS.out hW hL hK hU hC hA HGD.out.2.2.2)
                                clear HU HK HCK HAL
                                go_wp2
                                go_ret
                                exact ⟨rfl, HFIN.out.1, _, _, _, _, _, _, _, HFIN.out.2⟩
                  · have h0 : P.length = 0 := by omega
                    have HFIN : Hid (Below w.heap.size w (wC.alloc (.cells #[.int .i64 0, .int .i64 0, .int .i64 0, .int .i64 0, .int .i64 0, .int .i64 0, .int .i64 0, .int .i64 0] 168)) ∧ WebR (wC.alloc (.cells #[.int .i64 0, .int .i64 0, .int .i64 0, .int .i64 0, .int .i64 0, .int .i64 0, .int .i64 0, .int .i64 0] 168)) (wC.alloc (.cells #[.int .i64 0, .int .i64 0, .int .i64 0, .int .i64 0, .int .i64 0, .int .i64 0, .int .i64 0, .int .i64 0] 168)).heap.size (w.heap.size + 1) w.heap.size Ap cp Ab cb hd l bl lk (fun _ _ => 0) (fun _ => 0)) := by
                      have hW := HWC.out
                      have hE := HPE.out
                      rw [hE] at hW h0
                      exact WebR.zero _ HF.out HS.out hW h0
                    have hos0 := ordS_none HF.out HPT.out HTH.out HS.out (by rw [← HPE.out]; exact h0)
                    have hEa : Ex wC (wC.alloc (.cells #[.int .i64 0, .int .i64 0, .int .i64 0, .int .i64 0, .int .i64 0, .int .i64 0, .int .i64 0, .int .i64 0] 168)) (fun _ => False) := (Ex.refl wC _).alloc _
                    have hDN := Blk.eight0 wC
                    have HVA := Lib.hid (HWC.out.keep hEa (fun _ _ h => h)).var
                    have HOA := Lib.hid (HOC.out.kept (hEa.block _ (by omega) (fun h => h)))
                    have HDN := Lib.hid hDN
                    generalize P.length = N0 at *
                    subst h0
                    generalize (ordS bl lk bl.length).length = mo at *
                    subst hos0
                    clear hEa hDN
                    go_wp2
                    go_loopw [149] (fun i wr => i = .int .i64 0 ∧ wr = wC) (fun _ _ => 0)
                    case atStart => exact ⟨rfl, rfl⟩
                    case round =>
                      obtain ⟨rfl, rfl⟩ := hrel
                      go_wp2
                      obtain ⟨wE, hwE⟩ : ∃ wE, wE = wr.alloc (.cells #[.int .i64 0, .int .i64 0, .int .i64 0, .int .i64 0, .int .i64 0, .int .i64 0, .int .i64 0, .int .i64 0] 168) := ⟨_, rfl⟩
                      rw [← hwE]
                      rw [← hwE] at HFIN HVA HOA HDN
                      clear hwE
                      generalize wr.heap.size = gD at *
                      go_loopw [216] (fun i w8 => i = .int .i64 0 ∧ w8 = wE) (fun _ _ => 0)
                      case atStart => exact ⟨rfl, rfl⟩
                      case round =>
                        obtain ⟨rfl, hw8⟩ := hrel
                        obtain rfl := hw8.symm
                        go_wp2
                        go_loopw [287] (fun i w8 => ∃ t : Nat, t ≤ 8 ∧ i = .int .i64 t ∧ w8 = wE) (fun i _ => 8 - (intOf i).toNat)
                        case atStart => exact ⟨0, by omega, rfl, rfl⟩
                        case round =>
                          obtain ⟨t, ht8, rfl, hw9⟩ := hrel
                          obtain rfl := hw9.symm
                          by_cases hlt : t < 8
                          · have hdn := (HDN.out.cell (j := t) hlt).1
                            have hown := (HOA.out.cell (j := t) hlt).1
                            have HUP := Lib.hid (fun pV pO => up0_any gD t pV pO wE hdn hlt)
                            have i1 : (0 : Int) ≤ (t : Int) := by omega
                            have i2 : (t : Int) < 8 := by omega
                            clear hdn
                            go_wp2_with (go_at_call 107; refine halt_ ?_)
                            refine Halt_.go ?_
                            refine (HUP.out _ _).mono ?_
                            rintro e' w5 ⟨rfl, h5⟩
                            obtain rfl := h5.symm
                            go_wp2
                            go_roundw
                            case rel => exact ⟨t + 1, by omega, by go_num, trivial⟩
                            case measure => simp [intOf]; omega
                          · obtain rfl : t = 8 := by omega
                            have hvar := HVA.out
                            go_wp2
                            go_ret
                            exact ⟨rfl, HFIN.out.1, _, _, _, _, _, _, _, HFIN.out.2⟩
end Go.Proofs.Ytjifpjfinffamaa
end
