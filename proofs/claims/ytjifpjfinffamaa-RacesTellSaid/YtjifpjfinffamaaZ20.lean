/- Texts R10 R11 R18 R12 R13 R13b, laid together. -/
import Derived.Test.YtjifpjfinffamaaZ8
import Derived.Test.YtjifpjfinffamaaZ17
import Derived.Test.YtjifpjfinffamaaZ19
import Derived.WalkMore
import Derived.Maps.RangeWalk
section
namespace Go.Proofs.Ytjifpjfinffamaa
open Go.RowKit Go.Maps
structure HBk (l : List Ev) (bl : List Bl) (lk : List Nat) : Prop where
  f : BlkF l bl lk
  th : ∀ e ∈ l, 0 ≤ e.th ∧ e.th < 8
  nb : bl.length ≤ l.length
  pt : PartL lk bl.length
theorem HBk.of {l : List Ev} (hl : l.length ≤ 1099511627776) (hk : chk ss0 l 0 = (-1, 0)) : HBk l (wBl l) (wLk l) := ⟨wBl_facts hl hk, chk_fm l 0 ss0 hk, wBl_le l, wLk_part l⟩
theorem pts_len (l : List Ev) (bl : List Bl) : (pts l bl).length ≤ bl.length + l.length := by
  unfold pts
  rw [List.length_append]
  have := ptsB_len bl bl.length
  have := ptsE_len l l.length
  omega
theorem HBk.thr {l : List Ev} {bl : List Bl} {lk : List Nat} (h : HBk l bl lk) {p : Nat} (hp : p < (pts l bl).length) : ∃ T : Nat, (ptAt (pts l bl) p).th = (T : Int) ∧ T < 8 ∧ thP (pts l bl) p = T := by
  have := pts_thr h.f h.th hp
  exact ⟨(ptAt (pts l bl) p).th.toNat, by omega, by omega, rfl⟩
section
variable {w w2 : World} {hi gW gF : Nat} {Ap : Option Addr} {cp : Nat} {Ab : Option Addr} {cb : Nat} {hd : Nat → Value} {l : List Ev} {bl : List Bl} {lk : List Nat} {sn : Nat → Nat → Nat} {tn : Nat → Nat}
theorem WebR.point (h : WebR w hi gW gF Ap cp Ab cb hd l bl lk sn tn) (hB : HBk l bl lk) {p : Nat} (hp : p < (pts l bl).length) : ∃ (g T : Nat), Ap = some ⟨g, 0, none⟩ ∧ thP (pts l bl) p = T ∧ T < 8 ∧ w.cell? ⟨g, p * 13, none⟩ = some (.int .i64 (T : Int)) ∧
    w.cell? ⟨g, p * 13 + 3, none⟩ = some (.int .i64 (ptAt (pts l bl) p).bk) ∧ w.cell? ⟨g, p * 13 + 12, none⟩ = some (.int .i64 ((tn p : Nat) : Int)) ∧ ∀ t, t < 8 → w.cell? ⟨g, p * 13 + 4 + t, none⟩ = some (.int .i64 ((sn p t : Nat) : Int)) := by
  obtain ⟨g, hA, _, hc⟩ := h.pt (by omega)
  obtain ⟨T, hT, hT8, hTP⟩ := hB.thr hp
  refine ⟨g, T, hA, hTP, hT8, ?_, ?_, ?_, fun t ht => ?_⟩
  · have := hc p 0 hp (by omega)
    rw [Nat.add_zero] at this
    rw [this]
    simp [pcell, hT]
  · have := hc p 3 hp (by omega)
    rw [this]
    simp [pcell]
  · have := hc p 12 hp (by omega)
    rw [this]
    simp [pcell]
  · have := hc p (4 + t) hp (by omega)
    rw [Nat.add_assoc, this]
    unfold pcell
    rw [if_neg (by omega), if_neg (by omega), if_neg (by omega), if_neg (by omega), if_neg (by omega), Nat.add_sub_cancel_left]
end
set_option linter.unusedSimpArgs false in
set_option maxRecDepth 100000 in
set_option maxHeartbeats 6400000 in
theorem aheadW_any (hi gW gF : Nat) (Ap : Option Addr) (cp : Nat) (Ab : Option Addr) (cb : Nat) (hd : Nat → Value) (l : List Ev) (bl : List Bl) (lk : List Nat) (sn : Nat → Nat → Nat) (tn : Nat → Nat) (w : World) (h : WebR w hi gW gF Ap cp Ab cb hd l bl lk sn tn) (hB : HBk l bl lk) (p q : Nat) (hp : p < (pts l bl).length) (hq : q < (pts l bl).length) :
    Calls Try.prog 88 #[.pointer (some ⟨gW, 0, none⟩), .int .i64 (p : Int), .int .i64 (q : Int)] w fun e w' => e = .returned (.bool (aheadP l bl lk p q)) ∧ ∃ m, w' = w.drewN m := by
  have c0 := h.c0
  obtain ⟨g, T, hA, hTP, hT8, p0, _, p12, _⟩ := h.point hB hp
  obtain ⟨g', T', hA', _, _, _, _, _, q4⟩ := h.point hB hq
  subst hA
  have e : g' = g := by injection hA' with e; injection e with e; exact e.symm
  subst e
  have hs := q4 T hT8
  have hah := h.ah p q hp hq
  rw [hTP] at hah
  have hN : (pts l bl).length = (pts l bl).length := rfl
  generalize (pts l bl).length = N at *
  generalize hb : aheadP l bl lk p q = b at *
  have i1 : (0 : Int) ≤ (p : Int) := by omega
  have i2 : (p : Int) < (N : Int) := by omega
  have i3 : (0 : Int) ≤ (q : Int) := by omega
  have i4 : (q : Int) < (N : Int) := by omega
  have i5 : (0 : Int) ≤ (T : Int) := by omega
  have i6 : (T : Int) < 8 := by omega
  generalize htp : tn p = tp at *
  generalize hsq : sn q T = sq at *
  clear h hB hb q4 hA' htp hsq hN
  by_cases hpq : p = q
  · subst hpq
    have hbf : b = false := by
      cases b with
      | false => rfl
      | true => exact absurd rfl (hah.2 rfl).1
    subst hbf
    have k1 : ((p : Int) != (p : Int)) = false := by simp
    clear hah
    go_enter Try.func88, Try.ntmps88
    go_wp2
    go_quiet (fail)
    go_wp2
    go_ret
    exact ⟨rfl, _, rfl⟩
  · have k1 : ((p : Int) != (q : Int)) = true := by simp; omega
    have HB : Hid (b = decide (tp < sq)) := by
      by_cases hlt : tp < sq
      · rw [hah.1 ⟨hpq, hlt⟩]
        exact (decide_eq_true hlt).symm
      · have hbf : b = false := by
          cases b with
          | false => rfl
          | true => exact absurd (hah.2 rfl).2 hlt
        rw [hbf]
        exact (decide_eq_false hlt).symm
    clear hah hpq
    go_enter Try.func88, Try.ntmps88
    go_wp2
    go_quiet (fail)
    go_wp2
    go_ret
    refine ⟨?_, _, rfl⟩
    rw [HB.out]
    rfl
end Go.Proofs.Ytjifpjfinffamaa
end
section
namespace Go.Proofs.Ytjifpjfinffamaa
open Go.RowKit Go.Maps
theorem info83 : (Try.prog.info? 83).map (fun i => (i.zero, i.size, i.bytes)) = some (some (.agg #[.int .i64 0, .int .i64 0, .int .u64 0, .bool false, .bool false]), 5, 32) := by kernel_rfl
def acell (a : Acc) : List Value := [.int .i64 (a.ev : Int), .int .i64 a.th, .int .u64 a.ad, .bool a.wr, .bool a.pl]
def OwnA (w : World) (base : Nat) (A : Option Addr) (c : Nat) (xs : List Acc) : Prop := w.ownsRow base 83 5 (.slice A xs.length c) xs.length (xs.flatMap acell)
theorem OwnA.nil (w : World) (base : Nat) : OwnA w base none 0 [] := World.ownsRow_nil w base 83 5
theorem OwnA.below {w w2 : World} {base B : Nat} {A : Option Addr} {c : Nat} {xs : List Acc} (h : OwnA w base A c xs) (hl : w.heap.size ≤ B) (hb : Below B w w2) : OwnA w2 base A c xs := own_keep h fun g hg => hb.block g (by have := (World.ownsRow.lt h g hg).2; omega)
theorem OwnA.push {w2 : World} {base g cap m : Nat} {xs : List Acc} (x : Acc) (hm : m = xs.length) (h : w2.ownsRow base 83 5 (.slice (some ⟨g, 0, none⟩) (m + 1) cap) (m + 1) (xs.flatMap acell ++ acell x)) : OwnA w2 base (some ⟨g, 0, none⟩) cap (xs ++ [x]) := by
  subst hm
  unfold OwnA
  rw [List.length_append, List.flatMap_append]
  simpa using h
theorem accAt_case {l : List Ev} {bl : List Bl} {k : Nat} {e : Ev} (he : l[k]? = some e) : accAt l bl k =
    if PlK e.kind then some ⟨k, e.th, e.addr, decide (e.kind = 11), true⟩
    else if e.kind = 2 then (if e.own = false ∧ 0 ≤ ofP l bl k then some ⟨k, e.th, e.addr, false, false⟩ else none)
    else if e.kind = 3 then (if 0 ≤ ofP l bl k ∧ wrP l bl k = true then some ⟨k, e.th, e.addr, true, false⟩ else none) else none := by
  have hg : l.getD k ev0 = e := by simp [List.getD, he]
  unfold accAt
  rw [hg]
set_option linter.unusedSimpArgs false in
set_option maxRecDepth 100000 in
set_option maxHeartbeats 12800000 in
theorem accesses_any (hi gW gF : Nat) (Ap : Option Addr) (cp : Nat) (Ab : Option Addr) (cb : Nat) (hd : Nat → Value) (l : List Ev) (bl : List Bl) (lk : List Nat) (sn : Nat → Nat → Nat) (tn : Nat → Nat) (A : Option Addr) (cap : Nat) (w : World)
    (h : WebR w hi gW gF Ap cp Ab cb hd l bl lk sn tn) (hB : HBk l bl lk) (hhi : hi ≤ w.heap.size) (hc : EvR w w.heap.size A l) (hl : l.length ≤ 1048576) :
    Calls Try.prog 86 #[.pointer (some ⟨gW, 0, none⟩), .slice A l.length cap] w fun e w' => ∃ Aa ca, e = .returned (.slice Aa (accL l bl l.length).length ca) ∧ OwnA w' w.heap.size Aa ca (accL l bl l.length) ∧ Below w.heap.size w w' := by
  have HW := Lib.hid h
  have HBK := Lib.hid hB
  have HC := Lib.hid hc
  have hnp := pts_len l bl
  have hnb := hB.nb
  clear h hB hc
  go_enter Try.func86, Try.ntmps86
  go_wp2
  go_loopw [11, 5] (fun i vo wr => ∃ (k m : Nat) (Aa : Option Addr) (ca : Nat), k ≤ l.length ∧ m ≤ k ∧ i = .int .i64 k ∧ vo = .slice Aa m ca ∧ Hid (m = (accL l bl k).length) ∧ Hid (OwnA wr w.heap.size Aa ca (accL l bl k)) ∧ Hid (Below w.heap.size w wr)) (fun i _ _ => l.length - (intOf i).toNat)
  case atStart => exact ⟨0, 0, none, 0, Nat.zero_le _, Nat.le_refl _, rfl, rfl, rfl, OwnA.nil _ _, Below.refl _ _⟩
  case round =>
    obtain ⟨k, m, Aa, ca, hkn, hmk, rfl, rfl, HM, HO, HBL⟩ := hrel
    by_cases hlt : k < l.length
    · obtain ⟨eb, eo, e, hA, heb, he, hwd, e0, e1, e2, e3, e4, e5⟩ := HC.out.at_ HBL.out hlt
      subst hA
      have HACC := Lib.hid (accAt_case (bl := bl) he.out)
      have HE := Lib.hid he.out
      obtain ⟨t, kd, ad, x, ow, er⟩ := e
      simp only at e0 e1 e2 e3 e4 e5
      dsimp only at HACC
      have i1 : (0 : Int) ≤ (k : Int) := by omega
      have i2 : (k : Int) < (l.length : Int) := by omega
      have hsr := HBL.out.size
      obtain ⟨w1, hw1⟩ : ∃ w1, w1 = (wr.alloc (.cells #[.int .i64 t, .int .i64 kd, .int .u64 ad, .int .u64 x, .bool ow, .int .i64 er] 97)).alloc (.cells #[.int .i64 (k : Int), .int .i64 t, .int .u64 ad, .bool false, .bool false] 83) := ⟨_, rfl⟩
      have hb1 : Below wr.heap.size wr w1 := by rw [hw1]; exact ((Below.refl _ wr).alloc (Nat.le_refl _) _).alloc (by simp) _
      have hsz1 : wr.heap.size + 2 ≤ w1.heap.size := by rw [hw1]; simp
      have HB1 := Lib.hid (HBL.out.trans (hb1.mono hsr))
      have HO1 := Lib.hid (HO.out.below (Nat.le_refl _) hb1)
      have HOL := Lib.hid (fun g hg => (World.ownsRow.lt HO.out g hg).2)
      have HW1 := Lib.hid (HW.out.below (HB1.out.mono hhi))
      have ha : w1.heap[wr.heap.size + 1]? = some (.cells #[.int .i64 (k : Int), .int .i64 t, .int .u64 ad, .bool false, .bool false] 83 (0, 0)) := by rw [hw1]; exact heap_at _ _ _ (by simp)
      have hev : w1.heap[wr.heap.size]? = some (.cells #[.int .i64 t, .int .i64 kd, .int .u64 ad, .int .u64 x, .bool ow, .int .i64 er] 97 (0, 0)) := by rw [hw1]; exact (Below.heap_alloc _ _ _ (by simp)).trans (heap_at _ _ _ rfl)
      have hba : Blk w1 (wr.heap.size + 1) 83 (wr.heap.size + 1) 5 (fun i => (acell ⟨k, t, ad, false, false⟩).getD i (.bool false)) := Blk.of_heap ha (Nat.le_refl _) rfl fun i hi => by
        have : i = 0 ∨ i = 1 ∨ i = 2 ∨ i = 3 ∨ i = 4 := by omega
        rcases this with rfl | rfl | rfl | rfl | rfl <;> rfl
      have HBA := Lib.hid hba
      have hk1 : w1.cell? ⟨wr.heap.size, 1, none⟩ = some (.int .i64 kd) := by rw [cell_of_row _ _ 1 _ 97 (0, 0) hev]; rfl
      have hk4 : w1.cell? ⟨wr.heap.size, 4, none⟩ = some (.bool ow) := by rw [cell_of_row _ _ 4 _ 97 (0, 0) hev]; rfl
      have hx3 : w1.cell? ⟨wr.heap.size + 1, 3, none⟩ = some (.bool false) ∧ w1.frozen? ⟨wr.heap.size + 1, 3, none⟩ = false := hba.cell (j := 3) (by omega)
      have hx4 : w1.cell? ⟨wr.heap.size + 1, 4, none⟩ = some (.bool false) ∧ w1.frozen? ⟨wr.heap.size + 1, 4, none⟩ = false := hba.cell (j := 4) (by omega)
      have HW2 := Lib.hid hw1
      clear ha hev hba hb1 hw1 he hwd HBL HO
      have hgF := HW1.out.of k hlt
      have hc1 := HW1.out.c1
      go_upto_region 6 with fail
      rw [← HW2.out]
      clear HW2 e0 e1 e2 e3 e4 e5
      by_cases hp : PlK kd
      · have HA2 : Hid (accAt l bl k = some ⟨k, t, ad, decide (kd = 11), true⟩) := by
          have := HACC.out
          rw [if_pos hp] at this
          exact this
        rcases hp with rfl | rfl
        · have HA3 : Hid (accAt l bl k = some ⟨k, t, ad, false, true⟩) := HA2
          replace HA2 := HA3
          clear HA3
          go_wp2
          go_region
          have hbs := (HBA.out.set 4 (.bool true)).set 3 (.bool false)
          have hsz3 : wr.heap.size + 2 ≤ ((w1.setCell ⟨wr.heap.size + 1, 4, none⟩ (.bool true)).setCell ⟨wr.heap.size + 1, 3, none⟩ (.bool false)).drew.heap.size := by simpa using hsz1
          have hb3 : Below wr.heap.size w1 ((w1.setCell ⟨wr.heap.size + 1, 4, none⟩ (.bool true)).setCell ⟨wr.heap.size + 1, 3, none⟩ (.bool false)).drew := (((Below.refl _ w1).setCell (by show wr.heap.size ≤ wr.heap.size + 1; omega) _).setCell (by show wr.heap.size ≤ wr.heap.size + 1; omega) _).drew
          have hbs2 : Blk ((w1.setCell ⟨wr.heap.size + 1, 4, none⟩ (.bool true)).setCell ⟨wr.heap.size + 1, 3, none⟩ (.bool false)).drew _ 83 (wr.heap.size + 1) 5 _ := hbs
          have HO3 : Hid (OwnA ((w1.setCell ⟨wr.heap.size + 1, 4, none⟩ (.bool true)).setCell ⟨wr.heap.size + 1, 3, none⟩ (.bool false)).drew w.heap.size Aa ca (accL l bl k)) := own_keep HO1.out fun g hg => hb3.block g (HOL.out g hg)
          have HB3 := Lib.hid (HB1.out.trans (hb3.mono hsr))
          have y0 := (hbs2.cell (j := 0) (by omega)).1
          have y1 := (hbs2.cell (j := 1) (by omega)).1
          have y2 := (hbs2.cell (j := 2) (by omega)).1
          have y3 := (hbs2.cell (j := 3) (by omega)).1
          have y4 := (hbs2.cell (j := 4) (by omega)).1
          generalize ((w1.setCell ⟨wr.heap.size + 1, 4, none⟩ (.bool true)).setCell ⟨wr.heap.size + 1, 3, none⟩ (.bool false)).drew = w3 at *
          replace y0 : w3.cell? ⟨wr.heap.size + 1, 0, none⟩ = some (.int .i64 (k : Int)) := y0
          replace y1 : w3.cell? ⟨wr.heap.size + 1, 1, none⟩ = some (.int .i64 t) := y1
          replace y2 : w3.cell? ⟨wr.heap.size + 1, 2, none⟩ = some (.int .u64 ad) := y2
          replace y3 : w3.cell? ⟨wr.heap.size + 1, 3, none⟩ = some (.bool false) := y3
          replace y4 : w3.cell? ⟨wr.heap.size + 1, 4, none⟩ = some (.bool true) := y4
          clear hbs hbs2 hb3 hx3 hx4 hk1 hk4 hgF hc1
          have HROW : Hid (w3.ownsRow w.heap.size 83 5 (.slice Aa m ca) m ((accL l bl k).flatMap acell)) := by
            have := HO3.out
            unfold OwnA at this
            rw [← HM.out] at this
            exact this
          go_upto_region 15 with fail
          go_wp2_with (at_builtin; refine halt_ ?_)
          refine Halt_.go ?_
          refine wl_append1 _ (by rfl) (.tmp 81) (.tmp 83) 70 (by rfl) w.heap.size 83 _ 5 32 info83 Try.underlying70 rfl (by decide) (.slice Aa m ca) m ((accL l bl k).flatMap acell) (by rfl) (HROW.out.alloc _) w3.heap.size 1 [.int .i64 (k : Int), .int .i64 t, .int .u64 ad, .bool false, .bool true] (by rfl) (heap_at _ _ _ rfl) rfl (by simp [Value.oneCell']) (by omega) (by omega) (by simp; omega) _ rfl ?_
          intro g9 cap2 w4 hown hgr0 hat0 hlt4
          have hgr := grown_trans (World.grownBy_alloc w3 _ _) hgr0
          have hO4 := OwnA.push ⟨k, t, ad, false, true⟩ HM.out hown
          have HB4 := Lib.hid (HB3.out.grown hgr (by omega) (fun j hj => (World.ownsRow.lt HROW.out j hj).1))
          have hacc : accL l bl (k + 1) = accL l bl k ++ [⟨k, t, ad, false, true⟩] := by rw [accL_succ, HA2.out]
          rw [← hacc] at hO4
          have HO4 := Lib.hid hO4
          have HM4 : Hid (m + 1 = (accL l bl (k + 1)).length) := by
            have := HM.out
            show m + 1 = _
            rw [hacc, List.length_append, ← this]
            rfl
          clear hacc hO4 hown hgr0 hat0 hlt4 hgr HROW HO3 HB3 HA2 HO1 HB1 HACC
          go_wp2
          go_roundw
          case rel => exact ⟨k + 1, m + 1, some ⟨g9, 0, none⟩, cap2, hlt, by omega, by go_num, rfl, HM4, HO4, HB4⟩
          case measure => simp [intOf]; omega
        · have HA3 : Hid (accAt l bl k = some ⟨k, t, ad, true, true⟩) := HA2
          replace HA2 := HA3
          clear HA3
          go_wp2
          go_region
          have hbs := (HBA.out.set 4 (.bool true)).set 3 (.bool true)
          have hsz3 : wr.heap.size + 2 ≤ ((w1.setCell ⟨wr.heap.size + 1, 4, none⟩ (.bool true)).setCell ⟨wr.heap.size + 1, 3, none⟩ (.bool true)).drew.heap.size := by simpa using hsz1
          have hb3 : Below wr.heap.size w1 ((w1.setCell ⟨wr.heap.size + 1, 4, none⟩ (.bool true)).setCell ⟨wr.heap.size + 1, 3, none⟩ (.bool true)).drew := (((Below.refl _ w1).setCell (by show wr.heap.size ≤ wr.heap.size + 1; omega) _).setCell (by show wr.heap.size ≤ wr.heap.size + 1; omega) _).drew
          have hbs2 : Blk ((w1.setCell ⟨wr.heap.size + 1, 4, none⟩ (.bool true)).setCell ⟨wr.heap.size + 1, 3, none⟩ (.bool true)).drew _ 83 (wr.heap.size + 1) 5 _ := hbs
          have HO3 : Hid (OwnA ((w1.setCell ⟨wr.heap.size + 1, 4, none⟩ (.bool true)).setCell ⟨wr.heap.size + 1, 3, none⟩ (.bool true)).drew w.heap.size Aa ca (accL l bl k)) := own_keep HO1.out fun g hg => hb3.block g (HOL.out g hg)
          have HB3 := Lib.hid (HB1.out.trans (hb3.mono hsr))
          have y0 := (hbs2.cell (j := 0) (by omega)).1
          have y1 := (hbs2.cell (j := 1) (by omega)).1
          have y2 := (hbs2.cell (j := 2) (by omega)).1
          have y3 := (hbs2.cell (j := 3) (by omega)).1
          have y4 := (hbs2.cell (j := 4) (by omega)).1
          generalize ((w1.setCell ⟨wr.heap.size + 1, 4, none⟩ (.bool true)).setCell ⟨wr.heap.size + 1, 3, none⟩ (.bool true)).drew = w3 at *
          replace y0 : w3.cell? ⟨wr.heap.size + 1, 0, none⟩ = some (.int .i64 (k : Int)) := y0
          replace y1 : w3.cell? ⟨wr.heap.size + 1, 1, none⟩ = some (.int .i64 t) := y1
          replace y2 : w3.cell? ⟨wr.heap.size + 1, 2, none⟩ = some (.int .u64 ad) := y2
          replace y3 : w3.cell? ⟨wr.heap.size + 1, 3, none⟩ = some (.bool true) := y3
          replace y4 : w3.cell? ⟨wr.heap.size + 1, 4, none⟩ = some (.bool true) := y4
          clear hbs hbs2 hb3 hx3 hx4 hk1 hk4 hgF hc1
          have HROW : Hid (w3.ownsRow w.heap.size 83 5 (.slice Aa m ca) m ((accL l bl k).flatMap acell)) := by
            have := HO3.out
            unfold OwnA at this
            rw [← HM.out] at this
            exact this
          go_upto_region 15 with fail
          go_wp2_with (at_builtin; refine halt_ ?_)
          refine Halt_.go ?_
          refine wl_append1 _ (by rfl) (.tmp 81) (.tmp 83) 70 (by rfl) w.heap.size 83 _ 5 32 info83 Try.underlying70 rfl (by decide) (.slice Aa m ca) m ((accL l bl k).flatMap acell) (by rfl) (HROW.out.alloc _) w3.heap.size 1 [.int .i64 (k : Int), .int .i64 t, .int .u64 ad, .bool true, .bool true] (by rfl) (heap_at _ _ _ rfl) rfl (by simp [Value.oneCell']) (by omega) (by omega) (by simp; omega) _ rfl ?_
          intro g9 cap2 w4 hown hgr0 hat0 hlt4
          have hgr := grown_trans (World.grownBy_alloc w3 _ _) hgr0
          have hO4 := OwnA.push ⟨k, t, ad, true, true⟩ HM.out hown
          have HB4 := Lib.hid (HB3.out.grown hgr (by omega) (fun j hj => (World.ownsRow.lt HROW.out j hj).1))
          have hacc : accL l bl (k + 1) = accL l bl k ++ [⟨k, t, ad, true, true⟩] := by rw [accL_succ, HA2.out]
          rw [← hacc] at hO4
          have HO4 := Lib.hid hO4
          have HM4 : Hid (m + 1 = (accL l bl (k + 1)).length) := by
            have := HM.out
            show m + 1 = _
            rw [hacc, List.length_append, ← this]
            rfl
          clear hacc hO4 hown hgr0 hat0 hlt4 hgr HROW HO3 HB3 HA2 HO1 HB1 HACC
          go_wp2
          go_roundw
          case rel => exact ⟨k + 1, m + 1, some ⟨g9, 0, none⟩, cap2, hlt, by omega, by go_num, rfl, HM4, HO4, HB4⟩
          case measure => simp [intOf]; omega
      · have hA2 := HACC.out
        rw [if_neg hp] at hA2
        have k10 : (kd == 10) = false := by simpa using fun h => hp (.inl h)
        have k11 : (kd == 11) = false := by simpa using fun h => hp (.inr h)
        by_cases hk2 : kd = 2
        · subst hk2
          rw [if_pos rfl] at hA2
          cases ow with
          | true =>
            rw [if_neg (by simp)] at hA2
            have HA2 := Lib.hid hA2
            have HO3 := HO1
            have HB3 := HB1
            clear hA2 hp HO1 HB1
            go_wp2
            have hacc : accL l bl (k + 1) = accL l bl k := by rw [accL_succ, HA2.out]
            have HM4 : Hid (m = (accL l bl (k + 1)).length) := by rw [hacc]; exact HM
            have HO4 := HO3.out
            rw [← hacc] at HO4
            have HO5 := Lib.hid HO4
            clear hacc HO4
            go_roundw
            case rel => exact ⟨k + 1, m, Aa, ca, hlt, by omega, by go_num, rfl, HM4, HO5, HB3⟩
            case measure => simp [intOf]; omega
          | false =>
            generalize ofP l bl k = o at *
            by_cases ho : 0 ≤ o
            · rw [if_pos ⟨rfl, ho⟩] at hA2
              have HA2 := Lib.hid hA2
              have i3 : ¬ o < 0 := by omega
              have HO3 := HO1
              have HB3 := HB1
              have y0 := (HBA.out.cell (j := 0) (by omega)).1
              have y1 := (HBA.out.cell (j := 1) (by omega)).1
              have y2 := (HBA.out.cell (j := 2) (by omega)).1
              replace y0 : w1.cell? ⟨wr.heap.size + 1, 0, none⟩ = some (.int .i64 (k : Int)) := y0
              replace y1 : w1.cell? ⟨wr.heap.size + 1, 1, none⟩ = some (.int .i64 t) := y1
              replace y2 : w1.cell? ⟨wr.heap.size + 1, 2, none⟩ = some (.int .u64 ad) := y2
              have y3 := hx3.1
              have y4 := hx4.1
              clear hA2 hp
              obtain ⟨w3, hw3⟩ : ∃ w3, w3 = w1 := ⟨_, rfl⟩
              rw [← hw3]
              rw [← hw3] at HO3 HB3 y0 y1 y2 y3 y4 hx3 hx4 hk1 hk4 hgF hc1 hsz1
              have hsz3 := hsz1
              clear hw3
              have HROW : Hid (w3.ownsRow w.heap.size 83 5 (.slice Aa m ca) m ((accL l bl k).flatMap acell)) := by
                have := HO3.out
                unfold OwnA at this
                rw [← HM.out] at this
                exact this
              go_upto_region 15 with fail
              go_wp2_with (at_builtin; refine halt_ ?_)
              refine Halt_.go ?_
              refine wl_append1 _ (by rfl) (.tmp 81) (.tmp 83) 70 (by rfl) w.heap.size 83 _ 5 32 info83 Try.underlying70 rfl (by decide) (.slice Aa m ca) m ((accL l bl k).flatMap acell) (by rfl) (HROW.out.alloc _) w3.heap.size 1 [.int .i64 (k : Int), .int .i64 t, .int .u64 ad, .bool false, .bool false] (by rfl) (heap_at _ _ _ rfl) rfl (by simp [Value.oneCell']) (by omega) (by omega) (by simp; omega) _ rfl ?_
              intro g9 cap2 w4 hown hgr0 hat0 hlt4
              have hgr := grown_trans (World.grownBy_alloc w3 _ _) hgr0
              have hO4 := OwnA.push ⟨k, t, ad, false, false⟩ HM.out hown
              have HB4 := Lib.hid (HB3.out.grown hgr (by omega) (fun j hj => (World.ownsRow.lt HROW.out j hj).1))
              have hacc : accL l bl (k + 1) = accL l bl k ++ [⟨k, t, ad, false, false⟩] := by rw [accL_succ, HA2.out]
              rw [← hacc] at hO4
              have HO4 := Lib.hid hO4
              have HM4 : Hid (m + 1 = (accL l bl (k + 1)).length) := by
                have := HM.out
                show m + 1 = _
                rw [hacc, List.length_append, ← this]
                rfl
              clear hacc hO4 hown hgr0 hat0 hlt4 hgr HROW HO3 HB3 HA2 HO1 HB1 HACC
              go_wp2
              go_roundw
              case rel => exact ⟨k + 1, m + 1, some ⟨g9, 0, none⟩, cap2, hlt, by omega, by go_num, rfl, HM4, HO4, HB4⟩
              case measure => simp [intOf]; omega
            · rw [if_neg (fun q => ho q.2)] at hA2
              have HA2 := Lib.hid hA2
              have i3 : o < 0 := by omega
              have HO3 := HO1
              have HB3 := HB1
              clear hA2 hp HO1 HB1
              go_wp2
              have hacc : accL l bl (k + 1) = accL l bl k := by rw [accL_succ, HA2.out]
              have HM4 : Hid (m = (accL l bl (k + 1)).length) := by rw [hacc]; exact HM
              have HO4 := HO3.out
              rw [← hacc] at HO4
              have HO5 := Lib.hid HO4
              clear hacc HO4
              go_roundw
              case rel => exact ⟨k + 1, m, Aa, ca, hlt, by omega, by go_num, rfl, HM4, HO5, HB3⟩
              case measure => simp [intOf]; omega
        · rw [if_neg hk2] at hA2
          have k2 : (kd == 2) = false := by simpa using hk2
          by_cases hk3 : kd = 3
          · subst hk3
            rw [if_pos rfl] at hA2
            have hc0 := HW1.out.c0
            have hc2 := HW1.out.c2
            rcases ofP_cases l bl k with ho | ⟨p, ho, hpN⟩
            · rw [if_neg (by omega)] at hA2
              have HA2 := Lib.hid hA2
              generalize ofP l bl k = o at *
              have i3 : o < 0 := by omega
              have HO3 := HO1
              have HB3 := HB1
              clear hA2 hp hk2 HO1 HB1
              go_wp2
              go_quiet (fail)
              go_wp2
              have HO3b : Hid (OwnA (w1.drewN nq) w.heap.size Aa ca (accL l bl k)) := own_keep HO3.out fun _ _ => rfl
              have HB3b := Lib.hid (below_drewN HB3.out nq)
              replace HO3 := HO3b
              replace HB3 := HB3b
              clear HO3b HB3b
              have hacc : accL l bl (k + 1) = accL l bl k := by rw [accL_succ, HA2.out]
              have HM4 : Hid (m = (accL l bl (k + 1)).length) := by rw [hacc]; exact HM
              have HO4 := HO3.out
              rw [← hacc] at HO4
              have HO5 := Lib.hid HO4
              clear hacc HO4
              go_roundw
              case rel => exact ⟨k + 1, m, Aa, ca, hlt, by omega, by go_num, rfl, HM4, HO5, HB3⟩
              case measure => simp [intOf]; omega
            · obtain ⟨g, T, hAp, _, _, _, p3, _, _⟩ := HW1.out.point HBK.out hpN
              subst hAp
              obtain ⟨i, hib, hbk⟩ := ofP_block (l := l) (bl := bl) (k := k) (by omega) (by
                have hg : l.getD k ev0 = ⟨t, 3, ad, x, ow, er⟩ := by simp [List.getD, HE.out]
                rw [hg]
                rintro (h | h) <;> cases h)
              rw [ho, Int.toNat_natCast] at hbk
              rw [hbk] at p3
              obtain ⟨gb, hAb, _, hbc, _, _⟩ := HW1.out.bk.at_ (Below.refl _ _) hib
              subst hAb
              have b5 := hbc.c5
              have hwr : wrP l bl k = (blAt bl i).wr := by
                unfold wrP
                rw [ho, Int.toNat_natCast, hbk, Int.toNat_natCast]
              rw [hwr] at hA2
              rw [ho] at hA2 hgF
              generalize (blAt bl i).wr = bw at *
              generalize hNN : (pts l bl).length = N at *
              have HNN := Lib.hid hNN
              have i3 : ¬ (p : Int) < 0 := by omega
              have i4 : (0 : Int) ≤ (p : Int) := by omega
              have i5 : (p : Int) < (N : Int) := by omega
              have i6 : (0 : Int) ≤ (i : Int) := by omega
              have i7 : (i : Int) < (bl.length : Int) := by omega
              clear hbc hbk hwr hNN hp hk2 ho
              cases bw with
              | true =>
                rw [if_pos ⟨by omega, rfl⟩] at hA2
                have HA2 := Lib.hid hA2
                clear hA2
                go_wp2
                go_quiet (fail)
                have hx3b : (w1.drewN nq).cell? ⟨wr.heap.size + 1, 3, none⟩ = some (.bool false) ∧ (w1.drewN nq).frozen? ⟨wr.heap.size + 1, 3, none⟩ = false := hx3
                go_upto_region 15 with fail
                have hbs : Blk ((w1.drewN nq).setCell ⟨wr.heap.size + 1, 3, none⟩ (.bool true)) _ 83 (wr.heap.size + 1) 5 _ := Blk.set (w := w1.drewN nq) HBA.out 3 (.bool true)
                have hsz3 : wr.heap.size + 2 ≤ ((w1.drewN nq).setCell ⟨wr.heap.size + 1, 3, none⟩ (.bool true)).heap.size := by simpa using hsz1
                have hb3 : Below wr.heap.size w1 ((w1.drewN nq).setCell ⟨wr.heap.size + 1, 3, none⟩ (.bool true)) := (below_drewN (Below.refl _ w1) nq).setCell (by show wr.heap.size ≤ wr.heap.size + 1; omega) _
                have HO3 : Hid (OwnA ((w1.drewN nq).setCell ⟨wr.heap.size + 1, 3, none⟩ (.bool true)) w.heap.size Aa ca (accL l bl k)) := own_keep HO1.out fun g hg => hb3.block g (HOL.out g hg)
                have HB3 := Lib.hid (HB1.out.trans (hb3.mono hsr))
                have y0 := (hbs.cell (j := 0) (by omega)).1
                have y1 := (hbs.cell (j := 1) (by omega)).1
                have y2 := (hbs.cell (j := 2) (by omega)).1
                have y3 := (hbs.cell (j := 3) (by omega)).1
                have y4 := (hbs.cell (j := 4) (by omega)).1
                generalize (w1.drewN nq).setCell ⟨wr.heap.size + 1, 3, none⟩ (.bool true) = w3 at *
                replace y0 : w3.cell? ⟨wr.heap.size + 1, 0, none⟩ = some (.int .i64 (k : Int)) := y0
                replace y1 : w3.cell? ⟨wr.heap.size + 1, 1, none⟩ = some (.int .i64 t) := y1
                replace y2 : w3.cell? ⟨wr.heap.size + 1, 2, none⟩ = some (.int .u64 ad) := y2
                replace y3 : w3.cell? ⟨wr.heap.size + 1, 3, none⟩ = some (.bool true) := y3
                replace y4 : w3.cell? ⟨wr.heap.size + 1, 4, none⟩ = some (.bool false) := y4
                clear hbs hb3 hx3 hx3b hx4 hk1 hk4 hgF hc1 hc0 hc2 p3 b5
                have HROW : Hid (w3.ownsRow w.heap.size 83 5 (.slice Aa m ca) m ((accL l bl k).flatMap acell)) := by
                  have := HO3.out
                  unfold OwnA at this
                  rw [← HM.out] at this
                  exact this
                go_upto_region 15 with fail
                go_wp2_with (at_builtin; refine halt_ ?_)
                refine Halt_.go ?_
                refine wl_append1 _ (by rfl) (.tmp 81) (.tmp 83) 70 (by rfl) w.heap.size 83 _ 5 32 info83 Try.underlying70 rfl (by decide) (.slice Aa m ca) m ((accL l bl k).flatMap acell) (by rfl) (HROW.out.alloc _) w3.heap.size 1 [.int .i64 (k : Int), .int .i64 t, .int .u64 ad, .bool true, .bool false] (by rfl) (heap_at _ _ _ rfl) rfl (by simp [Value.oneCell']) (by omega) (by omega) (by simp; omega) _ rfl ?_
                intro g9 cap2 w4 hown hgr0 hat0 hlt4
                have hgr := grown_trans (World.grownBy_alloc w3 _ _) hgr0
                have hO4 := OwnA.push ⟨k, t, ad, true, false⟩ HM.out hown
                have HB4 := Lib.hid (HB3.out.grown hgr (by omega) (fun j hj => (World.ownsRow.lt HROW.out j hj).1))
                have hacc : accL l bl (k + 1) = accL l bl k ++ [⟨k, t, ad, true, false⟩] := by rw [accL_succ, HA2.out]
                rw [← hacc] at hO4
                have HO4 := Lib.hid hO4
                have HM4 : Hid (m + 1 = (accL l bl (k + 1)).length) := by
                  have := HM.out
                  show m + 1 = _
                  rw [hacc, List.length_append, ← this]
                  rfl
                clear hacc hO4 hown hgr0 hat0 hlt4 hgr HROW HO3 HB3 HA2 HO1 HB1 HACC
                go_wp2
                go_roundw
                case rel => exact ⟨k + 1, m + 1, some ⟨g9, 0, none⟩, cap2, hlt, by omega, by go_num, rfl, HM4, HO4, HB4⟩
                case measure => simp [intOf]; omega
              | false =>
                rw [if_neg (by simp)] at hA2
                have HA2 := Lib.hid hA2
                have HO3 := HO1
                have HB3 := HB1
                clear hA2 HO1 HB1
                go_wp2
                go_quiet (fail)
                go_wp2
                have HO3b : Hid (OwnA (w1.drewN nq) w.heap.size Aa ca (accL l bl k)) := own_keep HO3.out fun _ _ => rfl
                have HB3b := Lib.hid (below_drewN HB3.out nq)
                replace HO3 := HO3b
                replace HB3 := HB3b
                clear HO3b HB3b
                have hacc : accL l bl (k + 1) = accL l bl k := by rw [accL_succ, HA2.out]
                have HM4 : Hid (m = (accL l bl (k + 1)).length) := by rw [hacc]; exact HM
                have HO4 := HO3.out
                rw [← hacc] at HO4
                have HO5 := Lib.hid HO4
                clear hacc HO4
                go_roundw
                case rel => exact ⟨k + 1, m, Aa, ca, hlt, by omega, by go_num, rfl, HM4, HO5, HB3⟩
                case measure => simp [intOf]; omega
          · rw [if_neg hk3] at hA2
            have k3 : (kd == 3) = false := by simpa using hk3
            have HA2 := Lib.hid hA2
            have HO3 := HO1
            have HB3 := HB1
            clear hA2 hp hk2 hk3 HO1 HB1
            go_wp2
            have hacc : accL l bl (k + 1) = accL l bl k := by rw [accL_succ, HA2.out]
            have HM4 : Hid (m = (accL l bl (k + 1)).length) := by rw [hacc]; exact HM
            have HO4 := HO3.out
            rw [← hacc] at HO4
            have HO5 := Lib.hid HO4
            clear hacc HO4
            go_roundw
            case rel => exact ⟨k + 1, m, Aa, ca, hlt, by omega, by go_num, rfl, HM4, HO5, HB3⟩
            case measure => simp [intOf]; omega
    · obtain rfl : k = l.length := by omega
      go_wp2
      go_ret
      exact ⟨Aa, ca, by rw [← HM.out]; rfl, HO.out, HBL.out⟩
end Go.Proofs.Ytjifpjfinffamaa
end
section
namespace Go.Proofs.Ytjifpjfinffamaa
open Go.RowKit
theorem accAt_off {l : List Ev} {bl : List Bl} {lk : List Nat} (hF : BlkF l bl lk) {k : Nat} (hk : k < l.length) (h : ofP l bl k < 0) : accAt l bl k = none := by
  cases ha : accAt l bl k with
  | none => rfl
  | some a =>
    have := accAt_of hF hk ha
    omega
set_option linter.unusedSimpArgs false in
set_option maxRecDepth 100000 in
set_option maxHeartbeats 12800000 in
theorem refAcc_any (hi gW : Nat) (l : List Ev) (bl : List Bl) (lk : List Nat) (A : Option Addr) (cap : Nat) (w : World) (h : DR w hi gW l bl lk) (hB : HBk l bl lk) (hhi : hi ≤ w.heap.size) (hc : EvR w w.heap.size A l) (hl : l.length ≤ 1000) :
    Calls Try.prog 50 #[.pointer (some ⟨gW, 0, none⟩), .slice A l.length cap] w fun e w' => ∃ Aa ca, e = .returned (.slice Aa (accL l bl l.length).length ca) ∧ OwnA w' w.heap.size Aa ca (accL l bl l.length) ∧ Below w.heap.size w w' := by
  have HW := Lib.hid h
  have HBK := Lib.hid hB
  have HC := Lib.hid hc
  have hnp := pts_len l bl
  have hnb := hB.nb
  clear h hB hc
  go_enter Try.func50, Try.ntmps50
  go_wp2
  go_loopw [6, 5] (fun i vo wr => ∃ (k m : Nat) (Aa : Option Addr) (ca : Nat), k ≤ l.length ∧ m ≤ k ∧ i = .int .i64 k ∧ vo = .slice Aa m ca ∧ Hid (m = (accL l bl k).length) ∧ Hid (OwnA wr w.heap.size Aa ca (accL l bl k)) ∧ Hid (Below w.heap.size w wr)) (fun i _ _ => l.length - (intOf i).toNat)
  case atStart => exact ⟨0, 0, none, 0, Nat.zero_le _, Nat.le_refl _, rfl, rfl, rfl, OwnA.nil _ _, Below.refl _ _⟩
  case round =>
    obtain ⟨k, m, Aa, ca, hkn, hmk, rfl, rfl, HM, HO, HBL⟩ := hrel
    by_cases hlt : k < l.length
    · obtain ⟨eb, eo, e, hA, heb, he, hwd, e0, e1, e2, e3, e4, e5⟩ := HC.out.at_ HBL.out hlt
      subst hA
      have HACC := Lib.hid (accAt_case (bl := bl) he.out)
      have HE := Lib.hid he.out
      obtain ⟨t, kd, ad, x, ow, er⟩ := e
      simp only at e0 e1 e2 e3 e4 e5
      dsimp only at HACC
      have i1 : (0 : Int) ≤ (k : Int) := by omega
      have i2 : (k : Int) < (l.length : Int) := by omega
      have hsr := HBL.out.size
      obtain ⟨w1, hw1⟩ : ∃ w1, w1 = wr.alloc (.cells #[.int .i64 t, .int .i64 kd, .int .u64 ad, .int .u64 x, .bool ow, .int .i64 er] 97) := ⟨_, rfl⟩
      have hb1 : Below wr.heap.size wr w1 := by rw [hw1]; exact (Below.refl _ wr).alloc (Nat.le_refl _) _
      have hsz1 : wr.heap.size + 1 ≤ w1.heap.size := by rw [hw1]; simp
      have HB1 := Lib.hid (HBL.out.trans (hb1.mono hsr))
      have HO1 := Lib.hid (HO.out.below (Nat.le_refl _) hb1)
      have HW1 := Lib.hid (HW.out.below (HB1.out.mono hhi))
      have hev : w1.heap[wr.heap.size]? = some (.cells #[.int .i64 t, .int .i64 kd, .int .u64 ad, .int .u64 x, .bool ow, .int .i64 er] 97 (0, 0)) := by rw [hw1]; exact heap_at _ _ _ rfl
      have y0 : w1.cell? ⟨wr.heap.size, 0, none⟩ = some (.int .i64 t) := by rw [cell_of_row _ _ 0 _ 97 (0, 0) hev]; rfl
      have y1 : w1.cell? ⟨wr.heap.size, 1, none⟩ = some (.int .i64 kd) := by rw [cell_of_row _ _ 1 _ 97 (0, 0) hev]; rfl
      have y2 : w1.cell? ⟨wr.heap.size, 2, none⟩ = some (.int .u64 ad) := by rw [cell_of_row _ _ 2 _ 97 (0, 0) hev]; rfl
      have y4 : w1.cell? ⟨wr.heap.size, 4, none⟩ = some (.bool ow) := by rw [cell_of_row _ _ 4 _ 97 (0, 0) hev]; rfl
      obtain ⟨A3, q3, hc3, hr3⟩ := HW1.out.of
      obtain ⟨g3, hA3, hz3, hof⟩ := hr3 k hlt
      subst hA3
      have HW2 := Lib.hid hw1
      clear hev hb1 he hwd HBL HO hr3 hz3 hw1
      go_upto_region 6 with fail
      rw [← HW2.out]
      clear HW2 e0 e1 e2 e3 e4 e5
      rcases ofP_cases l bl k with hneg | ⟨p, hp, hpN⟩
      · rw [hneg] at hof
        have HA2 : Hid (accAt l bl k = none) := accAt_off HBK.out.f hlt (by rw [hneg]; decide)
        clear hneg
        go_wp2
        have hacc : accL l bl (k + 1) = accL l bl k := by rw [accL_succ, HA2.out]
        have HM4 : Hid (m = (accL l bl (k + 1)).length) := by rw [hacc]; exact HM
        have HO4 := HO1.out
        rw [← hacc] at HO4
        have HO5 := Lib.hid HO4
        clear hacc HO4
        go_roundw
        case rel => exact ⟨k + 1, m, Aa, ca, hlt, by omega, by go_num, rfl, HM4, HO5, HB1⟩
        case measure => simp [intOf]; omega
      · have HP := Lib.hid hp
        rw [hp] at hof
        have i3 : (0 : Int) ≤ (p : Int) := by omega
        have i4 : (p : Int) < ((pts l bl).length : Int) := by omega
        have i5 : ¬ ((p : Int) < 0) := by omega
        obtain ⟨A2, q2, hc2, hr2⟩ := HW1.out.bk
        obtain ⟨g2, hA2, hz2, hbk⟩ := hr2 p hpN
        subst hA2
        obtain ⟨bv, hbv⟩ : ∃ b, b = (ptAt (pts l bl) p).bk := ⟨_, rfl⟩
        rw [← hbv] at hbk
        have HBV := Lib.hid hbv
        generalize hN : (pts l bl).length = N at *
        have HN := Lib.hid hN
        clear hp hr2 hz2 hbv hN
        by_cases hk10 : kd = 10
        · subst hk10
          have HA2 : Hid (accAt l bl k = some ⟨k, t, ad, false, true⟩) := by
            have := HACC.out
            rw [if_pos (show PlK 10 from .inl rfl)] at this
            exact this
          clear HACC HE
          go_wp2
          go_quiet (fail)
          have HO3 : Hid (OwnA (w1.drewN nq) w.heap.size Aa ca (accL l bl k)) := own_keep HO1.out fun _ _ => rfl
          have HB3 := Lib.hid (bdrewN HB1.out nq)
          have hsz5 : wr.heap.size + 1 ≤ (w1.drewN nq).heap.size := hsz1
          have hev5 : (w1.drewN nq).cell? ⟨wr.heap.size, 0, none⟩ = some (.int .i64 t) ∧ (w1.drewN nq).cell? ⟨wr.heap.size, 1, none⟩ = some (.int .i64 _) ∧ (w1.drewN nq).cell? ⟨wr.heap.size, 2, none⟩ = some (.int .u64 ad) := ⟨y0, y1, y2⟩
          clear y0 y1 y2 y4 HO1 HB1 hc2 hc3 hof hbk
          generalize w1.drewN nq = w5 at *
          obtain ⟨y0, y1, y2⟩ := hev5
          have HROW : Hid (w5.ownsRow w.heap.size 83 5 (.slice Aa m ca) m ((accL l bl k).flatMap acell)) := by
            have := HO3.out
            unfold OwnA at this
            rw [← HM.out] at this
            exact this
          go_upto_region 12 with fail
          go_wp2_with (at_builtin; refine halt_ ?_)
          refine Halt_.go ?_
          refine wl_append1 _ (by rfl) (.tmp 83) (.tmp 97) 70 (by rfl) w.heap.size 83 _ 5 32 info83 Try.underlying70 rfl (by decide) (.slice Aa m ca) m ((accL l bl k).flatMap acell) (by rfl) (HROW.out.alloc _) w5.heap.size 1 [.int .i64 (k : Int), .int .i64 t, .int .u64 ad, .bool false, .bool true] (by rfl) (heap_at _ _ _ rfl) rfl (by simp [Value.oneCell']) (by omega) (by omega) (by simp; omega) _ rfl ?_
          intro g9 cap2 w4 hown hgr0 hat0 hlt4
          have hgr := grown_trans (World.grownBy_alloc w5 _ _) hgr0
          have hO4 := OwnA.push ⟨k, t, ad, false, true⟩ HM.out hown
          have HB4 := Lib.hid (HB3.out.grown hgr (by omega) (fun j hj => (World.ownsRow.lt HROW.out j hj).1))
          have hacc : accL l bl (k + 1) = accL l bl k ++ [⟨k, t, ad, false, true⟩] := by rw [accL_succ, HA2.out]
          rw [← hacc] at hO4
          have HO4 := Lib.hid hO4
          have HM4 : Hid (m + 1 = (accL l bl (k + 1)).length) := by
            have := HM.out
            show m + 1 = _
            rw [hacc, List.length_append, ← this]
            rfl
          clear hacc hO4 hown hgr0 hat0 hlt4 hgr HROW HO3 HB3 HA2
          go_wp2
          go_roundw
          case rel => exact ⟨k + 1, m + 1, some ⟨g9, 0, none⟩, cap2, hlt, by omega, by go_num, rfl, HM4, HO4, HB4⟩
          case measure => simp [intOf]; omega
        · by_cases hk11 : kd = 11
          · subst hk11
            have HA2 : Hid (accAt l bl k = some ⟨k, t, ad, true, true⟩) := by
              have := HACC.out
              rw [if_pos (show PlK 11 from .inr rfl)] at this
              exact this
            clear HACC HE
            go_wp2
            go_quiet (fail)
            have HO3 : Hid (OwnA (w1.drewN nq) w.heap.size Aa ca (accL l bl k)) := own_keep HO1.out fun _ _ => rfl
            have HB3 := Lib.hid (bdrewN HB1.out nq)
            have hsz5 : wr.heap.size + 1 ≤ (w1.drewN nq).heap.size := hsz1
            have hev5 : (w1.drewN nq).cell? ⟨wr.heap.size, 0, none⟩ = some (.int .i64 t) ∧ (w1.drewN nq).cell? ⟨wr.heap.size, 1, none⟩ = some (.int .i64 _) ∧ (w1.drewN nq).cell? ⟨wr.heap.size, 2, none⟩ = some (.int .u64 ad) := ⟨y0, y1, y2⟩
            clear y0 y1 y2 y4 HO1 HB1 hc2 hc3 hof hbk
            generalize w1.drewN nq = w5 at *
            obtain ⟨y0, y1, y2⟩ := hev5
            have HROW : Hid (w5.ownsRow w.heap.size 83 5 (.slice Aa m ca) m ((accL l bl k).flatMap acell)) := by
              have := HO3.out
              unfold OwnA at this
              rw [← HM.out] at this
              exact this
            go_upto_region 12 with fail
            go_wp2_with (at_builtin; refine halt_ ?_)
            refine Halt_.go ?_
            refine wl_append1 _ (by rfl) (.tmp 83) (.tmp 97) 70 (by rfl) w.heap.size 83 _ 5 32 info83 Try.underlying70 rfl (by decide) (.slice Aa m ca) m ((accL l bl k).flatMap acell) (by rfl) (HROW.out.alloc _) w5.heap.size 1 [.int .i64 (k : Int), .int .i64 t, .int .u64 ad, .bool true, .bool true] (by rfl) (heap_at _ _ _ rfl) rfl (by simp [Value.oneCell']) (by omega) (by omega) (by simp; omega) _ rfl ?_
            intro g9 cap2 w4 hown hgr0 hat0 hlt4
            have hgr := grown_trans (World.grownBy_alloc w5 _ _) hgr0
            have hO4 := OwnA.push ⟨k, t, ad, true, true⟩ HM.out hown
            have HB4 := Lib.hid (HB3.out.grown hgr (by omega) (fun j hj => (World.ownsRow.lt HROW.out j hj).1))
            have hacc : accL l bl (k + 1) = accL l bl k ++ [⟨k, t, ad, true, true⟩] := by rw [accL_succ, HA2.out]
            rw [← hacc] at hO4
            have HO4 := Lib.hid hO4
            have HM4 : Hid (m + 1 = (accL l bl (k + 1)).length) := by
              have := HM.out
              show m + 1 = _
              rw [hacc, List.length_append, ← this]
              rfl
            clear hacc hO4 hown hgr0 hat0 hlt4 hgr HROW HO3 HB3 HA2
            go_wp2
            go_roundw
            case rel => exact ⟨k + 1, m + 1, some ⟨g9, 0, none⟩, cap2, hlt, by omega, by go_num, rfl, HM4, HO4, HB4⟩
            case measure => simp [intOf]; omega
          · have n10 : (kd == 10) = false := by simpa using hk10
            have n11 : (kd == 11) = false := by simpa using hk11
            have hnp2 : ¬ PlK kd := by rintro (h | h) <;> contradiction
            have HAC := HACC.out
            rw [if_neg hnp2] at HAC
            have HAC2 := Lib.hid HAC
            clear HAC hk10 hk11
            by_cases hk2 : kd = 2
            · subst hk2
              clear n10 n11
              cases ow with
              | false =>
                have HA2 : Hid (accAt l bl k = some ⟨k, t, ad, false, false⟩) := by
                  have := HAC2.out
                  rw [if_pos rfl, if_pos ⟨rfl, by rw [HP.out]; omega⟩] at this
                  exact this
                clear hnp2
                go_wp2
                go_quiet (fail)
                have HO3 : Hid (OwnA (w1.drewN nq) w.heap.size Aa ca (accL l bl k)) := own_keep HO1.out fun _ _ => rfl
                have HB3 := Lib.hid (bdrewN HB1.out nq)
                have hsz5 : wr.heap.size + 1 ≤ (w1.drewN nq).heap.size := hsz1
                have hev5 : (w1.drewN nq).cell? ⟨wr.heap.size, 0, none⟩ = some (.int .i64 t) ∧ (w1.drewN nq).cell? ⟨wr.heap.size, 1, none⟩ = some (.int .i64 _) ∧ (w1.drewN nq).cell? ⟨wr.heap.size, 2, none⟩ = some (.int .u64 ad) := ⟨y0, y1, y2⟩
                clear y0 y1 y2 y4 HO1 HB1 hc2 hc3 hof hbk
                generalize w1.drewN nq = w5 at *
                obtain ⟨y0, y1, y2⟩ := hev5
                have HROW : Hid (w5.ownsRow w.heap.size 83 5 (.slice Aa m ca) m ((accL l bl k).flatMap acell)) := by
                  have := HO3.out
                  unfold OwnA at this
                  rw [← HM.out] at this
                  exact this
                go_upto_region 12 with fail
                go_wp2_with (at_builtin; refine halt_ ?_)
                refine Halt_.go ?_
                refine wl_append1 _ (by rfl) (.tmp 83) (.tmp 97) 70 (by rfl) w.heap.size 83 _ 5 32 info83 Try.underlying70 rfl (by decide) (.slice Aa m ca) m ((accL l bl k).flatMap acell) (by rfl) (HROW.out.alloc _) w5.heap.size 1 [.int .i64 (k : Int), .int .i64 t, .int .u64 ad, .bool false, .bool false] (by rfl) (heap_at _ _ _ rfl) rfl (by simp [Value.oneCell']) (by omega) (by omega) (by simp; omega) _ rfl ?_
                intro g9 cap2 w4 hown hgr0 hat0 hlt4
                have hgr := grown_trans (World.grownBy_alloc w5 _ _) hgr0
                have hO4 := OwnA.push ⟨k, t, ad, false, false⟩ HM.out hown
                have HB4 := Lib.hid (HB3.out.grown hgr (by omega) (fun j hj => (World.ownsRow.lt HROW.out j hj).1))
                have hacc : accL l bl (k + 1) = accL l bl k ++ [⟨k, t, ad, false, false⟩] := by rw [accL_succ, HA2.out]
                rw [← hacc] at hO4
                have HO4 := Lib.hid hO4
                have HM4 : Hid (m + 1 = (accL l bl (k + 1)).length) := by
                  have := HM.out
                  show m + 1 = _
                  rw [hacc, List.length_append, ← this]
                  rfl
                clear hacc hO4 hown hgr0 hat0 hlt4 hgr HROW HO3 HB3 HA2
                go_wp2
                go_roundw
                case rel => exact ⟨k + 1, m + 1, some ⟨g9, 0, none⟩, cap2, hlt, by omega, by go_num, rfl, HM4, HO4, HB4⟩
                case measure => simp [intOf]; omega
              | true =>
                have HA2 : Hid (accAt l bl k = none) := by
                  have := HAC2.out
                  rw [if_pos rfl, if_neg (fun h => by cases h.1)] at this
                  exact this
                clear hnp2
                go_wp2
                go_quiet (fail)
                have HO3 : Hid (OwnA (w1.drewN nq) w.heap.size Aa ca (accL l bl k)) := own_keep HO1.out fun _ _ => rfl
                have HB3 := Lib.hid (bdrewN HB1.out nq)
                have hsz5 : wr.heap.size + 1 ≤ (w1.drewN nq).heap.size := hsz1
                have hev5 : (w1.drewN nq).cell? ⟨wr.heap.size, 0, none⟩ = some (.int .i64 t) ∧ (w1.drewN nq).cell? ⟨wr.heap.size, 1, none⟩ = some (.int .i64 _) ∧ (w1.drewN nq).cell? ⟨wr.heap.size, 2, none⟩ = some (.int .u64 ad) := ⟨y0, y1, y2⟩
                clear y0 y1 y2 y4 HO1 HB1 hc2 hc3 hof hbk
                generalize w1.drewN nq = w5 at *
                obtain ⟨y0, y1, y2⟩ := hev5
                go_wp2
                have hacc : accL l bl (k + 1) = accL l bl k := by rw [accL_succ, HA2.out]
                have HM4 : Hid (m = (accL l bl (k + 1)).length) := by rw [hacc]; exact HM
                have HO4 := HO3.out
                rw [← hacc] at HO4
                have HO5 := Lib.hid HO4
                clear hacc HO4
                go_roundw
                case rel => exact ⟨k + 1, m, Aa, ca, hlt, by omega, by go_num, rfl, HM4, HO5, HB3⟩
                case measure => simp [intOf]; omega
            · have n2 : (kd == 2) = false := by simpa using hk2
              by_cases hk3 : kd = 3
              · subst hk3
                have hkg : ¬ PlK (l.getD k ev0).kind := by
                  simp only [List.getD, HE.out, Option.getD_some]
                  exact hnp2
                obtain ⟨ib, hib, hbki⟩ := ofP_block (by rw [HP.out]; omega : 0 ≤ ofP l bl k) hkg
                rw [HP.out, Int.toNat_natCast, ← HBV.out] at hbki
                subst hbki
                obtain ⟨Ab, q5, hdB, hc5, hrb⟩ := HW1.out.bl
                obtain ⟨gB, Ar, nr, cr, At, nt, ct, ⟨hAb, hgB⟩, hbc⟩ := rb_at hrb hib
                subst hAb
                have hbw := hbc.c5
                have j1 : (0 : Int) ≤ (ib : Int) := by omega
                have j2 : (ib : Int) < (bl.length : Int) := by omega
                have HRB := Lib.hid hbw
                have hwp : wrP l bl k = (blAt bl ib).wr := by
                  unfold wrP
                  rw [HP.out, Int.toNat_natCast, ← HBV.out, Int.toNat_natCast]
                have HAC3 : Hid (accAt l bl k = if (blAt bl ib).wr = true then some ⟨k, t, ad, true, false⟩ else none) := by
                  have := HAC2.out
                  rw [if_neg (by decide), if_pos rfl, hwp] at this
                  rw [this]
                  by_cases hq : (blAt bl ib).wr = true
                  · rw [if_pos ⟨by rw [HP.out]; omega, hq⟩, if_pos hq]
                    exact rfl
                  · rw [if_neg (fun h => hq h.2), if_neg hq]
                    exact rfl
                clear hbc hkg hnp2 hrb hwp hk2 HAC2 HACC HRB
                generalize (blAt bl ib).wr = bw at *
                rcases Bool.eq_false_or_eq_true bw with hv | hv
                · subst hv
                  have HA2 : Hid (accAt l bl k = some ⟨k, t, ad, true, false⟩) := by
                    have := HAC3.out
                    rw [if_pos rfl] at this
                    exact this
                  clear HAC3
                  go_wp2
                  go_quiet (fail)
                  have HO3 : Hid (OwnA (w1.drewN nq) w.heap.size Aa ca (accL l bl k)) := own_keep HO1.out fun _ _ => rfl
                  have HB3 := Lib.hid (bdrewN HB1.out nq)
                  have hsz5 : wr.heap.size + 1 ≤ (w1.drewN nq).heap.size := hsz1
                  have hev5 : (w1.drewN nq).cell? ⟨wr.heap.size, 0, none⟩ = some (.int .i64 t) ∧ (w1.drewN nq).cell? ⟨wr.heap.size, 1, none⟩ = some (.int .i64 _) ∧ (w1.drewN nq).cell? ⟨wr.heap.size, 2, none⟩ = some (.int .u64 ad) := ⟨y0, y1, y2⟩
                  have hev6 : (w1.drewN nq).cell? ⟨gW, 5, none⟩ = some (.slice (some ⟨gB, 0, none⟩) bl.length q5) := hc5
                  have hev7 : (w1.drewN nq).cell? ⟨gB, ib * 9 + 5, none⟩ = some (.bool _) := hbw
                  clear hc5 hbw
                  clear y0 y1 y2 y4 HO1 HB1 hc2 hc3 hof hbk
                  generalize w1.drewN nq = w5 at *
                  obtain ⟨y0, y1, y2⟩ := hev5
                  have HROW : Hid (w5.ownsRow w.heap.size 83 5 (.slice Aa m ca) m ((accL l bl k).flatMap acell)) := by
                    have := HO3.out
                    unfold OwnA at this
                    rw [← HM.out] at this
                    exact this
                  go_upto_region 12 with fail
                  go_wp2_with (at_builtin; refine halt_ ?_)
                  refine Halt_.go ?_
                  refine wl_append1 _ (by rfl) (.tmp 83) (.tmp 97) 70 (by rfl) w.heap.size 83 _ 5 32 info83 Try.underlying70 rfl (by decide) (.slice Aa m ca) m ((accL l bl k).flatMap acell) (by rfl) (HROW.out.alloc _) w5.heap.size 1 [.int .i64 (k : Int), .int .i64 t, .int .u64 ad, .bool true, .bool false] (by rfl) (heap_at _ _ _ rfl) rfl (by simp [Value.oneCell']) (by omega) (by omega) (by simp; omega) _ rfl ?_
                  intro g9 cap2 w4 hown hgr0 hat0 hlt4
                  have hgr := grown_trans (World.grownBy_alloc w5 _ _) hgr0
                  have hO4 := OwnA.push ⟨k, t, ad, true, false⟩ HM.out hown
                  have HB4 := Lib.hid (HB3.out.grown hgr (by omega) (fun j hj => (World.ownsRow.lt HROW.out j hj).1))
                  have hacc : accL l bl (k + 1) = accL l bl k ++ [⟨k, t, ad, true, false⟩] := by rw [accL_succ, HA2.out]
                  rw [← hacc] at hO4
                  have HO4 := Lib.hid hO4
                  have HM4 : Hid (m + 1 = (accL l bl (k + 1)).length) := by
                    have := HM.out
                    show m + 1 = _
                    rw [hacc, List.length_append, ← this]
                    rfl
                  clear hacc hO4 hown hgr0 hat0 hlt4 hgr HROW HO3 HB3 HA2
                  go_wp2
                  go_roundw
                  case rel => exact ⟨k + 1, m + 1, some ⟨g9, 0, none⟩, cap2, hlt, by omega, by go_num, rfl, HM4, HO4, HB4⟩
                  case measure => simp [intOf]; omega
                · subst hv
                  have HA2 : Hid (accAt l bl k = none) := by
                    have := HAC3.out
                    rw [if_neg (by decide)] at this
                    exact this
                  clear HAC3
                  go_wp2
                  go_quiet (fail)
                  have HO3 : Hid (OwnA (w1.drewN nq) w.heap.size Aa ca (accL l bl k)) := own_keep HO1.out fun _ _ => rfl
                  have HB3 := Lib.hid (bdrewN HB1.out nq)
                  have hsz5 : wr.heap.size + 1 ≤ (w1.drewN nq).heap.size := hsz1
                  have hev5 : (w1.drewN nq).cell? ⟨wr.heap.size, 0, none⟩ = some (.int .i64 t) ∧ (w1.drewN nq).cell? ⟨wr.heap.size, 1, none⟩ = some (.int .i64 _) ∧ (w1.drewN nq).cell? ⟨wr.heap.size, 2, none⟩ = some (.int .u64 ad) := ⟨y0, y1, y2⟩
                  have hev6 : (w1.drewN nq).cell? ⟨gW, 5, none⟩ = some (.slice (some ⟨gB, 0, none⟩) bl.length q5) := hc5
                  have hev7 : (w1.drewN nq).cell? ⟨gB, ib * 9 + 5, none⟩ = some (.bool _) := hbw
                  clear hc5 hbw
                  clear y0 y1 y2 y4 HO1 HB1 hc2 hc3 hof hbk
                  generalize w1.drewN nq = w5 at *
                  obtain ⟨y0, y1, y2⟩ := hev5
                  go_wp2
                  have hacc : accL l bl (k + 1) = accL l bl k := by rw [accL_succ, HA2.out]
                  have HM4 : Hid (m = (accL l bl (k + 1)).length) := by rw [hacc]; exact HM
                  have HO4 := HO3.out
                  rw [← hacc] at HO4
                  have HO5 := Lib.hid HO4
                  clear hacc HO4
                  go_roundw
                  case rel => exact ⟨k + 1, m, Aa, ca, hlt, by omega, by go_num, rfl, HM4, HO5, HB3⟩
                  case measure => simp [intOf]; omega
              · have n3 : (kd == 3) = false := by simpa using hk3
                have HA2 : Hid (accAt l bl k = none) := by
                  have := HAC2.out
                  rw [if_neg hk2, if_neg hk3] at this
                  exact this
                clear hnp2 hk2 hk3 HAC2 HACC
                go_wp2
                go_quiet (fail)
                have HO3 : Hid (OwnA (w1.drewN nq) w.heap.size Aa ca (accL l bl k)) := own_keep HO1.out fun _ _ => rfl
                have HB3 := Lib.hid (bdrewN HB1.out nq)
                have hsz5 : wr.heap.size + 1 ≤ (w1.drewN nq).heap.size := hsz1
                have hev5 : (w1.drewN nq).cell? ⟨wr.heap.size, 0, none⟩ = some (.int .i64 t) ∧ (w1.drewN nq).cell? ⟨wr.heap.size, 1, none⟩ = some (.int .i64 _) ∧ (w1.drewN nq).cell? ⟨wr.heap.size, 2, none⟩ = some (.int .u64 ad) := ⟨y0, y1, y2⟩
                clear y0 y1 y2 y4 HO1 HB1 hc2 hc3 hof hbk
                generalize w1.drewN nq = w5 at *
                obtain ⟨y0, y1, y2⟩ := hev5
                go_wp2
                have hacc : accL l bl (k + 1) = accL l bl k := by rw [accL_succ, HA2.out]
                have HM4 : Hid (m = (accL l bl (k + 1)).length) := by rw [hacc]; exact HM
                have HO4 := HO3.out
                rw [← hacc] at HO4
                have HO5 := Lib.hid HO4
                clear hacc HO4
                go_roundw
                case rel => exact ⟨k + 1, m, Aa, ca, hlt, by omega, by go_num, rfl, HM4, HO5, HB3⟩
                case measure => simp [intOf]; omega
    · have hk0 : k = l.length := by omega
      rw [hk0] at HM HO
      have k4 : ¬ (k : Int) < (l.length : Int) := by omega
      clear hk0
      go_wp2
      go_ret
      exact ⟨Aa, ca, by rw [HM.out]; rfl, HO.out, HBL.out⟩
end Go.Proofs.Ytjifpjfinffamaa
end
section
namespace Go.Proofs.Ytjifpjfinffamaa
open Go.RowKit Go.Maps
abbrev U64 (c : Int) : Prop := 0 ≤ c ∧ c < 18446744073709551616
def Rv (v : Value) : Option (DataW Value × List MemPlace) := some (.held v, [])
theorem ukey {c : Int} (h : U64 c) : keyOf Try.prog 40 (.int .u64 c) = some (.int .u64 c) := Maps.keyOf_int_mk Try.underlying40 (WalkArith.wf_u64 (by have := h.1; have := h.2; omega))
theorem zero70 (w : World) : (zeroValue 70).run Try.prog w = .ok (.slice none 0 0) w := by kernel_rfl
theorem lit_neu {x y : Int} (h : x ≠ y) : (Lit.int .u64 x) ≠ Lit.int .u64 y := by
  intro e
  injection e with _ e
  exact h e
abbrev atC (L : List Acc) (c : Int) : List Acc := L.filter fun a => a.ad == c
theorem atC_snoc (L : List Acc) (a : Acc) (c : Int) : atC (L ++ [a]) c = if a.ad = c then atC L c ++ [a] else atC L c := by
  unfold atC
  rw [List.filter_append]
  by_cases h : a.ad = c
  · rw [if_pos h, List.filter_cons_of_pos (by simp [h])]
    rfl
  · rw [if_neg h, List.filter_cons_of_neg (by simpa using h)]
    simp
structure ByC (w : World) (base mb m : Nat) (val : Int → Value) (L : List Acc) (D : DataW Value) : Prop where
  own : w.ownsMap Try.prog 40 Rv mb m D
  isM : IsMap D
  hasE : ∀ c, U64 c → (has D (.int .u64 c) = true ↔ ∃ a ∈ L, a.ad = c)
  at_ : ∀ c, U64 c → D.atKey (.int .u64 c) (.held (.slice none 0 0)) = .held (val c)
  row : ∀ c, U64 c → w.ownsRow base 83 5 (val c) (atC L c).length ((atC L c).flatMap acell)
  apart : ∀ c c', U64 c → U64 c' → c ≠ c' → (val c).ownBlock = none ∨ (val c).ownBlock ≠ (val c').ownBlock
  lt : mb < base
section
variable {w w2 w3 : World} {base mb m : Nat} {val : Int → Value} {L : List Acc} {D : DataW Value}
theorem ownsMap_kept {w w' : World} {R : Value → Option (DataW Value × List MemPlace)} {b n : Nat} {D : DataW Value} (h : w.ownsMap Try.prog 40 R b n D) (hk : w'.heap[b]? = w.heap[b]?) : w'.ownsMap Try.prog 40 R b n D := by
  obtain ⟨es, ck, h1, h2⟩ := h
  exact ⟨es, ck, hk.trans h1, h2⟩
theorem ByC.start (w : World) : ByC (w.alloc (.map #[] 0)) (w.heap.size + 1) w.heap.size 0 (fun _ => .slice none 0 0) [] (.map []) := by
  refine ⟨World.ownsMap_made _ _ _ _, ⟨_, rfl⟩, fun c _ => ?_, fun c _ => rfl, fun c _ => World.ownsRow_nil _ _ _ _, fun _ _ _ _ _ => .inl rfl, Nat.lt_succ_self _⟩
  simp [has]
theorem ByC.keep (h : ByC w base mb m val L D) (hk : ∀ k, k = mb ∨ base ≤ k → k < w.heap.size → w2.heap[k]? = w.heap[k]?) : ByC w2 base mb m val L D :=
  ⟨ownsMap_kept h.own (hk mb (.inl rfl) h.own.lt), h.isM, h.hasE, h.at_, fun c hc => own_keep (h.row c hc) fun g hg => hk g (.inr (World.ownsRow.lt (h.row c hc) g hg).1) (World.ownsRow.lt (h.row c hc) g hg).2, h.apart, h.lt⟩
theorem ByC.look (h : ByC w base mb m val L D) {c : Int} (hc : U64 c) : (Instr.lookup 174 (.map (some mb)) (.int .u64 c) false).run Try.prog w = .ok (val c) w := by
  obtain ⟨v, ps, hrun, hv⟩ := h.own.lookup (int_keyed Try.underlying40) Try.underlying174 (zero70 w) (zd := .held (.slice none 0 0)) (zp := []) rfl (ukey hc)
  unfold Rv at hv
  rw [h.at_ c hc] at hv
  simp only [Option.some.injEq, Prod.mk.injEq, DataW.held.injEq] at hv
  rw [hrun, hv.1]
theorem ByC.put (h : ByC w base mb m val L D) {a : Acc} (hc : U64 a.ad) (hm : m < maxLen) {v : Value} (hg : w.grownBy w3 (val a.ad).ownBlock) (ho : w3.ownsRow base 83 5 v ((atC L a.ad).length + 1) ((atC L a.ad).flatMap acell ++ acell a))
    (hv : v.ownBlock = (val a.ad).ownBlock ∨ ∃ g, v.ownBlock = some g ∧ w.heap.size ≤ g) :
    ∃ w4, (Instr.mapUpdate 174 (.map (some mb)) (.int .u64 a.ad) v).run Try.prog w3 = .ok () w4 ∧ w3.grownBy w4 (some mb) ∧ ByC w4 base mb (m + 1) (fun x => if x = a.ad then v else val x) (L ++ [a]) (D.put (.int .u64 a.ad) (.held v)) := by
  have hmb := h.own.lt
  have hfar : ∀ g, (val a.ad).ownBlock = some g → base ≤ g ∧ g < w.heap.size := fun g hg => World.ownsRow.lt (h.row _ hc) g hg
  have hlt := h.lt
  have hown3 : w3.ownsMap Try.prog 40 Rv mb m D := ownsMap_kept h.own (hg.block mb hmb (fun e => by have := (hfar mb e.symm).1; omega))
  obtain ⟨w4, hrun, ho4, hg4⟩ := hown3.update (int_keyed Try.underlying40) Try.underlying174 hm (ukey hc) (show Rv v = some (.held v, []) from rfl)
  have hk4 : ∀ k, k < w3.heap.size → k ≠ mb → w4.heap[k]? = w3.heap[k]? := fun k hk hne => hg4.block k hk (fun e => hne (Option.some.inj e))
  have hik : WideAt.IsKeyLit (Lit.int .u64 a.ad) := trivial
  refine ⟨w4, hrun, hg4, ho4, h.isM.put _ _, fun c hcc => ?_, fun c hcc => ?_, fun c hcc => ?_, fun c c' hcc hcc' hne => ?_, hlt⟩
  · by_cases e : c = a.ad
    · subst e
      rw [has_put_same h.isM hik]
      simp
    · rw [has_put_other (lit_neu e), h.hasE c hcc]
      constructor
      · rintro ⟨b, hb, he⟩
        exact ⟨b, by simp [hb], he⟩
      · rintro ⟨b, hb, he⟩
        rcases List.mem_append.1 hb with hb | hb
        · exact ⟨b, hb, he⟩
        · obtain rfl := List.mem_singleton.1 hb
          exact absurd he.symm e
  · by_cases e : c = a.ad
    · subst e
      rw [atKey_put_same h.isM hik, if_pos rfl]
    · rw [atKey_put_other (lit_neu e), if_neg e, h.at_ c hcc]
  · rw [atC_snoc]
    by_cases e : c = a.ad
    · subst e
      rw [if_pos rfl, if_pos rfl, List.length_append, List.flatMap_append]
      have : [a].flatMap acell = acell a := by simp
      rw [this]
      exact own_keep ho fun g hg => hk4 g (World.ownsRow.lt ho g hg).2 (by have := (World.ownsRow.lt ho g hg).1; omega)
    · rw [if_neg e, if_neg (fun q => e q.symm)]
      refine own_keep (h.row c hcc) fun g hg' => ?_
      have hg1 := World.ownsRow.lt (h.row c hcc) g hg'
      refine (hk4 g (by have := hg.size; omega) (by omega)).trans (hg.block g hg1.2 (fun e2 => ?_))
      rcases h.apart c a.ad hcc hc e with q | q
      · rw [q] at hg'; cases hg'
      · exact q (hg'.trans e2)
  · have hfar' : ∀ x, U64 x → ∀ g, (val x).ownBlock = some g → g < w.heap.size := fun x hx g hg => (World.ownsRow.lt (h.row x hx) g hg).2
    by_cases e1 : c = a.ad
    · rw [if_pos e1, if_neg (fun q => hne (e1.trans q.symm))]
      rcases hv with q | ⟨g, q1, q2⟩
      · rw [q]
        exact h.apart a.ad c' hc hcc' (fun q => hne (e1.trans q))
      · right
        rw [q1]
        intro e2
        have := hfar' c' hcc' g e2.symm
        omega
    · rw [if_neg e1]
      by_cases e2 : c' = a.ad
      · rw [if_pos e2]
        rcases hv with q | ⟨g, q1, q2⟩
        · rw [q]
          exact h.apart c a.ad hcc hc e1
        · right
          rw [q1]
          intro e3
          have := hfar' c hcc g e3
          omega
      · rw [if_neg e2]
        exact h.apart c c' hcc hcc' hne
theorem ranges_kept {w w' : World} {R : Value → Option (DataW Value × List MemPlace)} {b r n : Nat} {D : DataW Value} {left : Lit → Bool} {cnt : Nat} (h : w.ranges Try.prog 40 R b r n D left cnt) (hb : w'.heap[b]? = w.heap[b]?) (hr : w'.heap[r]? = w.heap[r]?) : w'.ranges Try.prog 40 R b r n D left cnt := by
  obtain ⟨es, clock, since, seen, c0, h1, F, hs, hD, h2, rest⟩ := h
  exact ⟨es, clock, since, seen, c0, hb.trans h1, F, hs, hD, hr.trans h2, rest⟩
theorem OwnA.at_ {w : World} {base g c : Nat} {xs : List Acc} (h : OwnA w base (some ⟨g, 0, none⟩) c xs) {i : Nat} {a : Acc} (hi : xs[i]? = some a) :
    w.cell? ⟨g, i * 5, none⟩ = some (.int .i64 (a.ev : Int)) ∧ w.cell? ⟨g, i * 5 + 1, none⟩ = some (.int .i64 a.th) ∧ w.cell? ⟨g, i * 5 + 2, none⟩ = some (.int .u64 a.ad) ∧ w.cell? ⟨g, i * 5 + 3, none⟩ = some (.bool a.wr) ∧ w.cell? ⟨g, i * 5 + 4, none⟩ = some (.bool a.pl) := by
  have hc : ∀ t v, (acell a)[t]? = some v → w.cell? ⟨g, i * 5 + t, none⟩ = some v := by
    intro t v ht
    have ht5 : t < 5 := (List.getElem?_eq_some_iff.1 ht).1
    have hget : ∀ (ys : List Acc) (j : Nat), ys[j]? = some a → (ys.flatMap acell)[j * 5 + t]? = some v := by
      intro ys
      induction ys with
      | nil => intro j hj; simp at hj
      | cons y ys ih =>
        intro j hj
        rw [List.flatMap_cons]
        cases j with
        | zero =>
          simp at hj
          subst hj
          rw [List.getElem?_append_left (by simpa [acell] using ht5), Nat.zero_mul, Nat.zero_add]
          exact ht
        | succ j =>
          simp at hj
          rw [List.getElem?_append_right (by simp [acell]; omega)]
          have := ih j hj
          rw [show (j + 1) * 5 + t - (acell y).length = j * 5 + t by simp [acell]; omega]
          exact this
    have := World.ownsRow.cells h (g := g) rfl (i * 5 + t) v (hget xs i hi)
    rw [Addr.add_lit, Nat.zero_add] at this
    exact this
  exact ⟨hc 0 _ rfl, hc 1 _ rfl, hc 2 _ rfl, hc 3 _ rfl, hc 4 _ rfl⟩
end
end Go.Proofs.Ytjifpjfinffamaa
end
section
namespace Go.Proofs.Ytjifpjfinffamaa
open Go.RowKit Go.Sort Go.Shelf
def lays109_ren : Go.Shelf.Ren := ⟨fun | 6 => 109 | 15 => 103 | 14 => 133 | 28 => 131 | 29 => 132 | 20 => 151 | 21 => 152 | 22 => 153 | 23 => 154 | 24 => 155 | 25 => 156 | 26 => 157 | 27 => 158 | 46 => 163 | 47 => 147 | 48 => 148 | 49 => 164 | 50 => 165 | 57 => 167 | n => n, fun | 22 => 73 | 24 => 85 | 25 => 176 | 3 => 3 | 39 => 160 | 0 => 0 | 53 => 206 | 55 => 40 | 4 => 4 | 46 => 200 | 45 => 199 | 50 => 148 | 5 => 5 | 9 => 9 | 66 => 221 | 70 => 225 | 76 => 234 | 77 => 235 | n => n, fun | n => n⟩
theorem lays109 : Go.Proofs.SlLaysF0.n6 Try.prog lays109_ren := {
  mixed := by kernel_rfl
  f6 := ⟨Try.f109.name, by decide, Try.func109.trans (congrArg some (by kernel_rfl))⟩
  f14 := ⟨Try.f133.name, by decide, Try.func133.trans (congrArg some (by kernel_rfl))⟩
  f15 := Try.func103.trans (congrArg some (by kernel_rfl))
  f20 := ⟨Try.f151.name, by decide, Try.func151.trans (congrArg some (by kernel_rfl))⟩
  f21 := ⟨Try.f152.name, by decide, Try.func152.trans (congrArg some (by kernel_rfl))⟩
  f22 := ⟨Try.f153.name, by decide, Try.func153.trans (congrArg some (by kernel_rfl))⟩
  f23 := ⟨Try.f154.name, by decide, Try.func154.trans (congrArg some (by kernel_rfl))⟩
  f24 := ⟨Try.f155.name, by decide, Try.func155.trans (congrArg some (by kernel_rfl))⟩
  f25 := ⟨Try.f156.name, by decide, Try.func156.trans (congrArg some (by kernel_rfl))⟩
  f26 := ⟨Try.f157.name, by decide, Try.func157.trans (congrArg some (by kernel_rfl))⟩
  f27 := ⟨Try.f158.name, by decide, Try.func158.trans (congrArg some (by kernel_rfl))⟩
  f28 := Try.func131.trans (congrArg some (by kernel_rfl))
  f29 := Try.func132.trans (congrArg some (by kernel_rfl))
  f46 := ⟨Try.f163.name, by decide, Try.func163.trans (congrArg some (by kernel_rfl))⟩
  f47 := Try.func147.trans (congrArg some (by kernel_rfl))
  f48 := Try.func148.trans (congrArg some (by kernel_rfl))
  f49 := ⟨Try.f164.name, by decide, Try.func164.trans (congrArg some (by kernel_rfl))⟩
  f50 := ⟨Try.f165.name, by decide, Try.func165.trans (congrArg some (by kernel_rfl))⟩
  f57 := ⟨Try.f167.name, by decide, Try.func167.trans (congrArg some (by kernel_rfl))⟩
  t0 := Try.underlying0
  a0 := Try.isAgg0
  z0 := Try.sizeOf0
  v0 := Try.zeroValue0
  t3 := Try.underlying3
  a3 := Try.isAgg3
  z3 := Try.sizeOf3
  v3 := Try.zeroValue3
  t4 := Try.underlying4
  a4 := Try.isAgg4
  z4 := Try.sizeOf4
  v4 := Try.zeroValue4
  t5 := Try.underlying5
  a5 := Try.isAgg5
  z5 := Try.sizeOf5
  v5 := Try.zeroValue5
  t9 := Try.underlying9
  a9 := Try.isAgg9
  z9 := Try.sizeOf9
  v9 := Try.zeroValue9
  t22 := Try.underlying73
  a22 := Try.isAgg73
  z22 := Try.sizeOf73
  v22 := Try.zeroValue73
  t25 := Try.underlying176
  a25 := Try.isAgg176
  z25 := Try.sizeOf176
  v25 := Try.zeroValue176
  t39 := Try.underlying160
  a39 := Try.isAgg160
  z39 := Try.sizeOf160
  v39 := Try.zeroValue160
  t45 := Try.underlying199
  a45 := Try.isAgg199
  z45 := Try.sizeOf199
  v45 := Try.zeroValue199
  t46 := Try.underlying200
  a46 := Try.isAgg200
  z46 := Try.sizeOf200
  v46 := Try.zeroValue200
  t50 := Try.underlying148
  a50 := Try.isAgg148
  z50 := Try.sizeOf148
  v50 := Try.zeroValue148
  t53 := Try.underlying206
  a53 := Try.isAgg206
  z53 := Try.sizeOf206
  v53 := Try.zeroValue206
  t55 := Try.underlying40
  a55 := Try.isAgg40
  z55 := Try.sizeOf40
  v55 := Try.zeroValue40
  t66 := Try.underlying221
  a66 := Try.isAgg221
  z66 := Try.sizeOf221
  v66 := Try.zeroValue221
  t70 := Try.underlying225
  a70 := Try.isAgg225
  z70 := Try.sizeOf225
  v70 := Try.zeroValue225
  t76 := Try.underlying234
  a76 := Try.isAgg234
  z76 := Try.sizeOf234
  v76 := Try.zeroValue234
  t77 := Try.underlying235
  a77 := Try.isAgg235
  z77 := Try.sizeOf235
  v77 := Try.zeroValue235 }
theorem info85 : (Try.prog.info? 85).map (fun i => (i.zero, i.size, i.bytes)) = some (some (.agg #[.int .i64 0, .int .i64 0]), 2, 16) := by kernel_rfl
def rcell (x : Nat × Nat) : List Value := [.int .i64 (x.1 : Int), .int .i64 (x.2 : Int)]
def OwnR2 (w : World) (base : Nat) (A : Option Addr) (c : Nat) (xs : List (Nat × Nat)) : Prop := w.ownsRow base 85 2 (.slice A xs.length c) xs.length (xs.flatMap rcell)
def orV2 (a b : Int) : Int := if a ≠ 0 then a else b
def cfR (x y : Nat × Nat) : Int := orV2 (cmp3 (x.1 : Int) (y.1 : Int)) (cmp3 (x.2 : Int) (y.2 : Int))
theorem or2_any (g : Nat) (a b : Int) (w : World) (h0 : w.cell? ⟨g, 0, none⟩ = some (.int .i64 a)) (h1 : w.cell? ⟨g, 1, none⟩ = some (.int .i64 b)) :
    Calls Try.prog 96 #[.slice (some ⟨g, 0, none⟩) 2 2] w fun e w' => e = .returned (.int .i64 (orV2 a b)) ∧ w' = w := by
  obtain ⟨R, hR⟩ : ∃ R, R = orV2 a b := ⟨_, rfl⟩
  rw [← hR]
  have HR := Lib.hid hR
  clear hR
  go_enter Try.func96, Try.ntmps96
  go_wp2
  go_loopw [8] (fun i wr => ∃ k : Nat, k ≤ 2 ∧ i = .int .i64 k ∧ Hid ((k = 0 ∨ k = 1 ∧ a = 0 ∨ k = 2 ∧ a = 0 ∧ b = 0)) ∧ wr = w) (fun i _ => 2 - (intOf i).toNat)
  case atStart => exact ⟨0, by omega, rfl, .inl rfl, rfl⟩
  case round =>
    obtain ⟨k, hk, rfl, HK, rfl⟩ := hrel
    rcases HK.out with rfl | ⟨rfl, rfl⟩ | ⟨rfl, rfl, rfl⟩
    · by_cases ha : a = 0
      · subst ha
        go_wp2
        go_roundw
        case rel => exact ⟨1, by omega, rfl, Lib.hid (by simp), trivial⟩
        case measure => simp [intOf]
      · have ha' : (a != 0) = true := by simpa using ha
        have hr : R = a := by rw [HR.out]; simp [orV2, ha]
        subst hr
        clear ha HR
        go_wp2
        go_ret
        exact ⟨rfl, rfl⟩
    · by_cases ha : b = 0
      · subst ha
        go_wp2
        go_roundw
        case rel => exact ⟨2, by omega, rfl, Lib.hid (by simp), trivial⟩
        case measure => simp [intOf]
      · have ha' : (b != 0) = true := by simpa using ha
        have hr : R = b := by rw [HR.out]; simp [orV2]
        subst hr
        clear ha HR
        go_wp2
        go_ret
        exact ⟨rfl, rfl⟩
    · have hr : R = 0 := by rw [HR.out]; simp [orV2]
      subst hr
      clear HR
      go_wp2
      go_ret
      exact ⟨rfl, rfl⟩
set_option linter.unusedSimpArgs false in
set_option maxRecDepth 100000 in
set_option maxHeartbeats 6400000 in
theorem cmpR_any (x y : Nat × Nat) (w : World) : Calls Try.prog 110 #[.agg (rcell x).toArray, .agg (rcell y).toArray] w fun e w' => e = .returned (.int .i64 (cfR x y)) ∧ ∃ q os, w' = grow (w.drewN q) os := by
  obtain ⟨a1, a2⟩ := x
  obtain ⟨b1, b2⟩ := y
  show Calls Try.prog 110 #[.agg #[.int .i64 (a1 : Int), .int .i64 (a2 : Int)], .agg #[.int .i64 (b1 : Int), .int .i64 (b2 : Int)]] w fun e w' => e = .returned (.int .i64 (orV2 (cmp3 (a1 : Int) (b1 : Int)) (cmp3 (a2 : Int) (b2 : Int)))) ∧ ∃ q os, w' = grow (w.drewN q) os
  go_enter Try.func110, Try.ntmps110
  go_wp2
  obtain ⟨wB, hwB⟩ : ∃ wB, wB = (w.alloc (.cells #[.int .i64 (a1 : Int), .int .i64 (a2 : Int)] 85)).alloc (.cells #[.int .i64 (b1 : Int), .int .i64 (b2 : Int)] 85) := ⟨_, rfl⟩
  rw [← hwB]
  have h1 : wB.heap[w.heap.size]? = some (.cells #[.int .i64 (a1 : Int), .int .i64 (a2 : Int)] 85 (0, 0)) := by rw [hwB]; exact (Below.heap_alloc _ _ _ (by simp)).trans (heap_at _ _ _ rfl)
  have h2 : wB.heap[w.heap.size + 1]? = some (.cells #[.int .i64 (b1 : Int), .int .i64 (b2 : Int)] 85 (0, 0)) := by rw [hwB]; exact heap_at _ _ _ (by simp)
  have p0 : wB.cell? ⟨w.heap.size, 0, none⟩ = some (.int .i64 (a1 : Int)) := by rw [cell_of_row _ _ 0 _ 85 (0, 0) h1]; rfl
  have p1 : wB.cell? ⟨w.heap.size, 1, none⟩ = some (.int .i64 (a2 : Int)) := by rw [cell_of_row _ _ 1 _ 85 (0, 0) h1]; rfl
  have q0 : wB.cell? ⟨w.heap.size + 1, 0, none⟩ = some (.int .i64 (b1 : Int)) := by rw [cell_of_row _ _ 0 _ 85 (0, 0) h2]; rfl
  have q1 : wB.cell? ⟨w.heap.size + 1, 1, none⟩ = some (.int .i64 (b2 : Int)) := by rw [cell_of_row _ _ 1 _ 85 (0, 0) h2]; rfl
  have HWB := Lib.hid hwB
  clear hwB h1 h2
  refine wp_region_still_tail 10 (by kernel_rfl) (by kernel_rfl) ?_
  simp only [List.take_succ_cons, List.take_zero, List.drop_succ_cons, List.drop_zero]
  repeat still_step
  still_call (cmpInt_any _ _ _)
  repeat still_step
  still_call (cmpInt_any _ _ _)
  repeat still_step
  refine wpStill_nil ?_
  change wpList _ _ _ _ _ wB.drew
  go_wp2_with (go_at_call 96; refine halt_ ?_)
  refine Halt_.go ?_
  have hh := heap_alloc_new wB (.cells #[.int .i64 (cmp3 (a1 : Int) (b1 : Int)), .int .i64 (cmp3 (a2 : Int) (b2 : Int))] 3)
  refine (or2_any wB.heap.size (cmp3 (a1 : Int) (b1 : Int)) (cmp3 (a2 : Int) (b2 : Int)) _ ?_ ?_).mono ?_
  · exact (cell_of_row (wB.alloc _) _ 0 _ 3 (0, 0) hh).trans rfl
  · exact (cell_of_row (wB.alloc _) _ 1 _ 3 (0, 0) hh).trans rfl
  rintro e' w' ⟨rfl, rfl⟩
  go_wp2
  go_ret
  refine ⟨rfl, 1, #[.cells #[.int .i64 (a1 : Int), .int .i64 (a2 : Int)] 85, .cells #[.int .i64 (b1 : Int), .int .i64 (b2 : Int)] 85, .cells #[.int .i64 (cmp3 (a1 : Int) (b1 : Int)), .int .i64 (cmp3 (a2 : Int) (b2 : Int))] 3], ?_⟩
  have e : (wB.alloc (.cells #[.int .i64 (cmp3 (a1 : Int) (b1 : Int)), .int .i64 (cmp3 (a2 : Int) (b2 : Int))] 3)) = grow w #[.cells #[.int .i64 (a1 : Int), .int .i64 (a2 : Int)] 85, .cells #[.int .i64 (b1 : Int), .int .i64 (b2 : Int)] 85, .cells #[.int .i64 (cmp3 (a1 : Int) (b1 : Int)), .int .i64 (cmp3 (a2 : Int) (b2 : Int))] 3] := by
    rw [HWB.out, alloc_eq_grow, alloc_eq_grow, alloc_eq_grow, grow_grow, grow_grow]
    rfl
  exact congrArg World.drew e
theorem cfR_neg (x y : Nat × Nat) : cfR x y < 0 ↔ lexlt x y := by
  unfold cfR orV2 lexlt cmp3
  repeat' split
  all_goals first | omega | (simp_all; omega) | simp_all
theorem cfR_lt (x y : Nat × Nat) : ltOf cfR x y = decide (lexlt x y) := by
  unfold ltOf
  simp [cfR_neg]
theorem cfR_swo : SWO (ltOf cfR) where
  irrefl x := by rw [cfR_lt]; simp
  trans x y z h1 h2 := by
    rw [cfR_lt] at *
    have := of_decide_eq_true h1
    have := of_decide_eq_true h2
    exact decide_eq_true (by unfold lexlt at *; omega)
  ntrans x y z h1 h2 := by
    rw [cfR_lt] at *
    have := of_decide_eq_false h1
    have := of_decide_eq_false h2
    exact decide_eq_false (by unfold lexlt at *; omega)
end Go.Proofs.Ytjifpjfinffamaa
end
section
namespace Go.Proofs.Ytjifpjfinffamaa
open Go.RowKit Go.Sort Go.Shelf
theorem sort_worldV {w : World} {base e size g c n : Nat} {xs ys : List Value} (h : w.ownsRow base e size (.slice (some ⟨g, 0, none⟩) n c) n xs) (hl : ys.length = xs.length) (q : Nat) (os : Array Obj) :
    (grow (putRow id (Sort.ahead w q) g 0 ys.toArray) os).ownsRow base e size (.slice (some ⟨g, 0, none⟩) n c) n ys ∧ w.grownBy (grow (putRow id (Sort.ahead w q) g 0 ys.toArray) os) (some g) := by
  have hgw := (World.ownsRow.lt h g rfl).2
  have hsz : (putRow id (Sort.ahead w q) g 0 ys.toArray).heap.size = w.heap.size := by simp [putRow, mapBlock, Sort.ahead]
  have hoth : ∀ k, k ≠ g → (putRow id (Sort.ahead w q) g 0 ys.toArray).heap[k]? = w.heap[k]? := by
    intro k hk
    simp [putRow, mapBlock, Sort.ahead, Array.getElem?_modify, Ne.symm hk]
  constructor
  · refine ⟨hl.trans (show _ ∧ _ from h).1, ?_⟩
    rcases (show _ ∨ _ from h.2) with ⟨h2, _⟩ | ⟨g', cap, cur, hv, hb, hh, hnc, hm, hcs, ht⟩
    · cases h2
    · injection hv with hv1 hv2 hv3
      injection hv1 with hv1
      injection hv1 with hv1
      subst hv1 hv3
      have hlen : xs.length = n * size := (show _ ∧ _ from h).1
      have hle : n * size ≤ cur.size := by
        rw [hcs]
        exact Nat.mul_le_mul_right _ hnc
      refine .inr ⟨g, c, putCells id 0 ys.toArray cur, rfl, hb, ?_, hnc, hm, by simpa [putCells] using hcs, ?_⟩
      · rw [grow_old _ _ (by rw [hsz]; exact hgw)]
        simp [putRow, mapBlock, Sort.ahead, Array.getElem?_modify, hh, onCells]
      · apply List.ext_getElem?
        intro j
        by_cases hj : j < ys.length
        · have hjc : j < cur.size := by omega
          have hjn : j < n * size := by omega
          simp [hj, putCells, hjc, hjn]
        · rw [List.getElem?_eq_none (by simp; omega), List.getElem?_eq_none (by simpa using hj)]
  · refine ⟨rfl, rfl, rfl, ?_, fun k hk hne => ?_⟩
    · simp only [grow, Array.size_append]
      rw [hsz]
      omega
    · rw [grow_old _ _ (by rw [hsz]; exact hk)]
      exact hoth k (fun e => hne (by rw [e]))
theorem rcell_get : ∀ (L : List (Nat × Nat)) (j t : Nat), t < 2 → (L.flatMap rcell)[j * 2 + t]? = (L[j]?).bind fun x => (rcell x)[t]?
  | [], j, t, _ => by simp
  | y :: L, 0, t, ht => by
    rw [List.flatMap_cons, List.getElem?_append_left (by simpa [rcell] using ht)]
    simp
  | y :: L, j + 1, t, ht => by
    rw [List.flatMap_cons, List.getElem?_append_right (by simp [rcell]; omega), show (j + 1) * 2 + t - (rcell y).length = j * 2 + t by simp [rcell]; omega, rcell_get L j t ht]
    simp
theorem rcell_len (L : List (Nat × Nat)) : (L.flatMap rcell).length = L.length * 2 := by
  induction L with
  | nil => rfl
  | cons y L ih => rw [List.flatMap_cons, List.length_append, ih, List.length_cons]; simp [rcell]; omega
theorem flat_rcell (d : Array (Nat × Nat)) : flatK rcell 2 d = (d.toList.flatMap rcell).toArray := by
  refine ext_get! (by rw [size_flatK, show (d.toList.flatMap rcell).toArray.size = (d.toList.flatMap rcell).length from rfl, rcell_len, Array.length_toList]) fun t ht => ?_
  have ht' : t < d.size * 2 := by simpa using ht
  rw [get_flatK _ _ _ t ht']
  have hj : t / 2 < d.size := by omega
  have h2 : t % 2 < 2 := Nat.mod_lt _ (by omega)
  have hg := rcell_get d.toList (t / 2) (t % 2) h2
  rw [show t / 2 * 2 + t % 2 = t by omega] at hg
  have hjl : d.toList[t / 2]? = some d[t / 2] := by simp [hj]
  rw [hjl] at hg
  have hlt : t % 2 < (rcell d[t / 2]).length := h2
  rw [getElem!_pos d (t / 2) hj, getElem!_pos (rcell d[t / 2]) (t % 2) hlt]
  have hs : t < (d.toList.flatMap rcell).toArray.size := by rw [List.size_toArray, rcell_len, Array.length_toList]; exact ht'
  rw [getElem!_pos _ t hs]
  have : (d.toList.flatMap rcell)[t]? = some (rcell d[t / 2])[t % 2] := by
    rw [hg]
    simp only [Option.bind_some]
    exact List.getElem?_eq_getElem hlt
  simpa using (List.getElem?_eq_some_iff.1 this).2.symm
theorem sort_races {w : World} {base : Nat} {A : Option Addr} {c : Nat} {xs : List (Nat × Nat)} (ho : OwnR2 w base A c xs) (hn : xs.length ≤ 1099511627776) :
    Calls Try.prog 109 #[.slice A xs.length c, .func (.func 110) #[] #[]] w fun e w' => e = .returned (.tuple #[]) ∧ ∃ ys : List (Nat × Nat), ys.Perm xs ∧ (ys.Pairwise fun x y => ¬ lexlt y x) ∧ OwnR2 w' base A c ys ∧ w.grownBy w' (Value.slice A xs.length c).ownBlock := by
  rcases Nat.eq_zero_or_pos xs.length with h0 | h0
  · obtain rfl : xs = [] := List.eq_nil_of_length_eq_zero h0
    have hc := AnyF.slices_SortFunc_none (P := Try.prog) (ρ := lays109_ren) lays109 A c (.func (.func 110) #[] #[]) w
    refine Calls.mono hc ?_
    rintro e w' ⟨rfl, rfl⟩
    exact ⟨rfl, [], List.Perm.refl _, List.Pairwise.nil, ho, World.grownBy.refl _ _⟩
  · obtain ⟨g, cap, hv, hbg, hlt⟩ := World.ownsRow.form ho h0
    have hA : A = some ⟨g, 0, none⟩ := by injection hv
    subst hA
    have hcmp : CmpLays Try.prog 110 #[] rcell 2 cfR g 0 xs.toArray.size w := by
      intro m os dk _ x y
      exact cmpR_any x y _
    have hH : HoldsK rcell 2 w g 0 xs.toArray := by
      unfold HoldsK
      rw [flat_rcell]
      intro j hj
      have hj' : j < (xs.flatMap rcell).length := by simpa using hj
      refine ⟨?_, by rw [Nat.zero_add]; exact World.ownsRow.frozenAt ho j⟩
      rw [Nat.zero_add, World.ownsRow.cellAt ho j (by rw [← rcell_len]; exact hj'), getElem!_pos _ j hj]
      simp
    have eg : ∀ args w, (callFunc 110 args).run Try.prog w = .ok (.enter 110 args) w := enters_of Try.func110 (by kernel_rfl) rfl
    have hpt : ∀ x y : Nat × Nat, ltOf cfR x y = false → ltOf cfR y x = false → x = y := by
      intro x y h1 h2
      rw [cfR_lt] at h1 h2
      have := of_decide_eq_false h1
      have := of_decide_eq_false h2
      obtain ⟨x1, x2⟩ := x
      obtain ⟨y1, y2⟩ := y
      unfold lexlt at *
      simp only at *
      have e1 : x1 = y1 := by omega
      have e2 : x2 = y2 := by omega
      rw [e1, e2]
    have hc := AnyQ.slices_SortFunc_total lays109 2 Try.isAgg85 Try.sizeOf85 rcell (fun _ => rfl) (fun x v hv => by
      simp only [rcell, List.mem_cons, List.not_mem_nil, or_false] at hv
      rcases hv with rfl | rfl <;> rfl) cfR cfR_swo 110 #[] g 0 c xs.toArray w eg hcmp hH hlt (by simp; omega) hpt
    have hsz : xs.toArray.size = xs.length := by simp
    rw [hsz] at hc
    refine Calls.mono hc ?_
    rintro e w' ⟨rfl, q, os, rfl⟩
    obtain ⟨S, hS⟩ : ∃ S, S = (xs.mergeSort fun x y => !(ltOf cfR) y x) := ⟨_, rfl⟩
    have hSp : S.Perm xs := by rw [hS]; exact List.mergeSort_perm xs _
    have hSs : S.Pairwise (fun x y => (!(ltOf cfR) y x) = true) := by
      rw [hS]
      refine List.pairwise_mergeSort (fun a b c h1 h2 => ?_) (fun a b => ?_) xs
      · simp only [Bool.not_eq_true'] at h1 h2 ⊢
        exact cfR_swo.ntrans _ _ _ h2 h1
      · simp only [Bool.or_eq_true, Bool.not_eq_true']
        rw [cfR_lt, cfR_lt]
        by_cases h : lexlt b a
        · exact .inr (decide_eq_false (by unfold lexlt at *; omega))
        · exact .inl (decide_eq_false h)
    have hw := sort_worldV (w := w) ho (ys := S.flatMap rcell) (by rw [rcell_len, rcell_len, hSp.length_eq]) q os
    have e1 : sortWorldK rcell 2 w g 0 q (xs.toArray.toList.mergeSort fun x y => !(ltOf cfR) y x).toArray os = grow (putRow id (Sort.ahead w q) g 0 (S.flatMap rcell).toArray) os := by
      unfold sortWorldK putRowK
      rw [flat_rcell, hS]
    rw [e1]
    refine ⟨rfl, S, hSp, hSs.imp fun {x y} h => ?_, ?_, hw.2⟩
    · simp only [Bool.not_eq_true'] at h
      rw [cfR_lt] at h
      exact of_decide_eq_false h
    · unfold OwnR2
      rw [hSp.length_eq]
      exact hw.1
end Go.Proofs.Ytjifpjfinffamaa
end
