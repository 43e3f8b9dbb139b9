/- Texts Y6, laid together. -/
import Derived.Test.YtjifpjfinffamaaZ3
import Derived.Test.YtjifpjfinffamaaZ4
import Derived.BigRegion
import Derived.Handy
import Derived.Deep.Cut
section
namespace Go.Proofs.Ytjifpjfinffamaa
open Go.RowKit
theorem docB_eq {l : List Ev} {at_ z : Nat} {e0 : Ev} {ov : Bool} (hat : l[at_]? = some e0) (hE : endF e0.th (l.drop (at_ + 1)) (at_ + 1) at_ = (z, ov)) :
    docB l at_ = (finB e0.th at_ z ov (l.getD z ev0) (bfo e0.th (bs0 at_) (l.drop at_) at_ (z + 1 - at_)), (bfo e0.th (bs0 at_) (l.drop at_) at_ (z + 1 - at_)).look) := by
  have hg : l.getD at_ ev0 = e0 := by simp [List.getD, hat]
  unfold docB
  rw [hg, hE]
theorem nine {i : Nat} (h : i < 9) : i = 0 ∨ i = 1 ∨ i = 2 ∨ i = 3 ∨ i = 4 ∨ i = 5 ∨ i = 6 ∨ i = 7 ∨ i = 8 := by omega
theorem blk_one {w : World} {base g : Nat} {b b' : Bl} {hd : Nat → Value} (h : HB w base (some ⟨g, 0, none⟩) 1 1 [b] hd) (t : Nat) (v : Value) (ht : t < 7) (hb : ∀ i, i < 9 → (if i = t then v else bcell b (hd 0) (hd 1) i) = bcell b' (hd 0) (hd 1) i) (h1 : b'.rd = b.rd) (h2 : b'.wt = b.wt) :
    HB (w.setCell ⟨g, t, none⟩ v) base (some ⟨g, 0, none⟩) 1 1 [b'] hd := by
  have := h.set 0 t v b' (by decide) ht hb h1 h2
  rwa [Nat.zero_mul, Nat.zero_add] at this
structure DocI (w0 wr : World) (b : Bl) (hd : Nat → Value) : Prop where
  hb : HB wr (w0.heap.size + 1) (some ⟨w0.heap.size + 1, 0, none⟩) 1 1 [b] hd
  zb : Blk wr w0.heap.size 43 w0.heap.size 9 (fun i => bcell bl0 (.slice none 0 0) (.slice none 0 0) i)
  bel : Below w0.heap.size w0 wr
theorem DocI.lt {w0 wr : World} {b : Bl} {hd : Nat → Value} (h : DocI w0 wr b hd) : w0.heap.size + 1 < wr.heap.size := (h.hb.row.lt _ rfl).2
theorem DocI.keep {w0 wr w2 : World} {b : Bl} {hd : Nat → Value} (h : DocI w0 wr b hd) (hb : Below wr.heap.size wr w2) : DocI w0 w2 b hd :=
  have hl := h.lt
  ⟨h.hb.below (Nat.le_refl _) hb, h.zb.below (by omega) hb, h.bel.trans (hb.mono (by omega))⟩
theorem DocI.set {w0 wr : World} {b b' : Bl} {hd : Nat → Value} (h : DocI w0 wr b hd) (t : Nat) (v : Value) (ht : t < 7) (hb : ∀ i, i < 9 → (if i = t then v else bcell b (hd 0) (hd 1) i) = bcell b' (hd 0) (hd 1) i) (h1 : b'.rd = b.rd) (h2 : b'.wt = b.wt) :
    DocI w0 (wr.setCell ⟨w0.heap.size + 1, t, none⟩ v) b' hd :=
  ⟨blk_one h.hb t v ht hb h1 h2, h.zb.kept (Below.heap_setCell _ ⟨w0.heap.size + 1, t, none⟩ v w0.heap.size (by simp)), h.bel.setCell (p := ⟨w0.heap.size + 1, t, none⟩) (Nat.le_succ _) v⟩
theorem DocI.list {w0 wr w2 : World} {b b' : Bl} {hd : Nat → Value} (h : DocI w0 wr b hd) (s : Nat) (hs : s < 2) (v : Value) (hown : OwnN w2 (w0.heap.size + 1) v (bEnt b' s)) (hgr : wr.grownBy w2 (hd s).ownBlock)
    (hat : v.ownBlock = (hd s).ownBlock ∨ ∃ g', v.ownBlock = some g' ∧ wr.heap.size ≤ g') (hb : ∀ i r t, i < 7 → bcell b' r t i = bcell b r t i) (he : bEnt b' (1 - s) = bEnt b (1 - s)) :
    ∃ hd', DocI w0 (w2.setCell ⟨w0.heap.size + 1, 7 + s, none⟩ v) b' hd' := by
  have hl := h.lt
  have hg2 : ∀ k, (hd s).ownBlock = some k → w0.heap.size + 1 ≤ k ∧ k < wr.heap.size := fun k hk => (h.hb.own s (by omega)).lt k hk
  refine ⟨fun i => if i = 2 * 0 + s then v else hd i, ?_, ?_, ?_⟩
  · have := h.hb.list (w2 := w2) 0 s hs v b' (by decide) hown (fun g' h1 h2 => hgr.block g' h1 (by simpa using Ne.symm h2)) (by simpa using hat) (fun i r t hi => hb i r t hi) he
    rw [Nat.zero_mul, Nat.zero_add] at this
    exact this
  · refine (h.zb.kept (hgr.block _ (by omega) fun e => ?_)).kept (Below.heap_setCell _ ⟨w0.heap.size + 1, 7 + s, none⟩ v w0.heap.size (by simp))
    have := (hg2 _ e.symm).1
    omega
  · exact (h.bel.grown hgr (by have := h.bel.size; omega) (fun k hk => by have := (hg2 k hk).1; omega)).setCell (p := ⟨w0.heap.size + 1, 7 + s, none⟩) (Nat.le_succ _) v
theorem nine_kept (w : World) (z g : Nat) (hne : g ≠ z) (f : Nat → Value) :
    (((((((((w.setCell ⟨z, 0, none⟩ (f 0)).setCell ⟨z, 1, none⟩ (f 1)).setCell ⟨z, 2, none⟩ (f 2)).setCell ⟨z, 3, none⟩ (f 3)).setCell ⟨z, 4, none⟩ (f 4)).setCell ⟨z, 5, none⟩ (f 5)).setCell ⟨z, 6, none⟩ (f 6)).setCell ⟨z, 7, none⟩ (f 7)).setCell ⟨z, 8, none⟩ (f 8)).heap[g]? = w.heap[g]? := by
  rw [Below.heap_setCell _ ⟨z, 8, none⟩ _ g hne, Below.heap_setCell _ ⟨z, 7, none⟩ _ g hne, Below.heap_setCell _ ⟨z, 6, none⟩ _ g hne, Below.heap_setCell _ ⟨z, 5, none⟩ _ g hne, Below.heap_setCell _ ⟨z, 4, none⟩ _ g hne, Below.heap_setCell _ ⟨z, 3, none⟩ _ g hne, Below.heap_setCell _ ⟨z, 2, none⟩ _ g hne, Below.heap_setCell _ ⟨z, 1, none⟩ _ g hne, Below.heap_setCell _ ⟨z, 0, none⟩ _ g hne]
theorem DocI.fin {w0 wr : World} {b : Bl} {hd : Nat → Value} (h : DocI w0 wr b hd) (v0 v1 v2 v3 v4 v5 v6 v7 v8 : Value) (hv : [v0, v1, v2, v3, v4, v5, v6, v7, v8] = (List.range 9).map (bcell b (hd 0) (hd 1))) :
    ∃ w', w' = (((((((((wr.setCell ⟨w0.heap.size, 0, none⟩ v0).setCell ⟨w0.heap.size, 1, none⟩ v1).setCell ⟨w0.heap.size, 2, none⟩ v2).setCell ⟨w0.heap.size, 3, none⟩ v3).setCell ⟨w0.heap.size, 4, none⟩ v4).setCell ⟨w0.heap.size, 5, none⟩ v5).setCell ⟨w0.heap.size, 6, none⟩ v6).setCell ⟨w0.heap.size, 7, none⟩ v7).setCell ⟨w0.heap.size, 8, none⟩ v8) ∧
      (∀ i, i < 9 → w'.cell? ⟨w0.heap.size, i, none⟩ = some (bcell b (hd 0) (hd 1) i)) ∧ OwnN w' w0.heap.size (hd 0) b.rd ∧ OwnN w' w0.heap.size (hd 1) b.wt ∧ Ap (hd 0) (hd 1) ∧ Below w0.heap.size w0 w' := by
  simp only [List.range, List.range.loop, List.map_cons, List.map_nil, List.cons.injEq, and_true] at hv
  obtain ⟨rfl, rfl, rfl, rfl, rfl, rfl, rfl, rfl, rfl⟩ := hv
  have hn := fun g' h' => nine_kept wr w0.heap.size g' h' (bcell b (hd 0) (hd 1))
  refine ⟨_, rfl, ?_, ?_, ?_, ?_, ?_⟩
  · have hz := ((((((((h.zb.set 0 (bcell b (hd 0) (hd 1) 0)).set 1 (bcell b (hd 0) (hd 1) 1)).set 2 (bcell b (hd 0) (hd 1) 2)).set 3 (bcell b (hd 0) (hd 1) 3)).set 4 (bcell b (hd 0) (hd 1) 4)).set 5 (bcell b (hd 0) (hd 1) 5)).set 6 (bcell b (hd 0) (hd 1) 6)).set 7 (bcell b (hd 0) (hd 1) 7)).set 8 (bcell b (hd 0) (hd 1) 8)
    intro i hi
    rw [(hz.cell hi).1]
    have : i = 0 ∨ i = 1 ∨ i = 2 ∨ i = 3 ∨ i = 4 ∨ i = 5 ∨ i = 6 ∨ i = 7 ∨ i = 8 := by omega
    rcases this with rfl | rfl | rfl | rfl | rfl | rfl | rfl | rfl | rfl <;> rfl
  · exact own_base (OwnN.kept (h.hb.own 0 (by decide)) fun g' hg' => hn g' (by have := ((h.hb.own 0 (by decide)).lt g' hg').1; omega)) (Nat.le_succ _)
  · exact own_base (OwnN.kept (h.hb.own 1 (by decide)) fun g' hg' => hn g' (by have := ((h.hb.own 1 (by decide)).lt g' hg').1; omega)) (Nat.le_succ _)
  · exact h.hb.apart 0 1 (by decide) (by decide) (by decide)
  · exact ((((((((h.bel.setCell (p := ⟨w0.heap.size, 0, none⟩) (Nat.le_refl _) _).setCell (p := ⟨w0.heap.size, 1, none⟩) (Nat.le_refl _) _).setCell (p := ⟨w0.heap.size, 2, none⟩) (Nat.le_refl _) _).setCell (p := ⟨w0.heap.size, 3, none⟩) (Nat.le_refl _) _).setCell (p := ⟨w0.heap.size, 4, none⟩) (Nat.le_refl _) _).setCell (p := ⟨w0.heap.size, 5, none⟩) (Nat.le_refl _) _).setCell (p := ⟨w0.heap.size, 6, none⟩) (Nat.le_refl _) _).setCell (p := ⟨w0.heap.size, 7, none⟩) (Nat.le_refl _) _).setCell (p := ⟨w0.heap.size, 8, none⟩) (Nat.le_refl _) _
theorem DocI.start (w : World) (th : Int) (at_ z : Nat) (m : Nat) : ∃ hd, DocI w (((w.alloc (.cells #[.int .i64 0, .int .i64 0, .int .i64 0, .int .i64 0, .int .u64 0, .bool false, .int .i64 0, .slice none 0 0, .slice none 0 0] 43)).drewN m).alloc (.cells #[.int .i64 th, .int .i64 5, .int .i64 (at_ : Int), .int .i64 (z : Int), .int .u64 0, .bool false, .int .i64 0, .slice none 0 0, .slice none 0 0] 43)) ⟨th, 5, at_, z, 0, false, 0, [], []⟩ hd := by
  have h1 := HB.lit ((w.alloc (.cells #[.int .i64 0, .int .i64 0, .int .i64 0, .int .i64 0, .int .u64 0, .bool false, .int .i64 0, .slice none 0 0, .slice none 0 0] 43)).drewN m) (w.heap.size + 1) th 5 at_ z 0 false 0 (by simp)
  have h2 : Blk (w.alloc (.cells #[.int .i64 0, .int .i64 0, .int .i64 0, .int .i64 0, .int .u64 0, .bool false, .int .i64 0, .slice none 0 0, .slice none 0 0] 43)) w.heap.size 43 w.heap.size 9 (fun i => bcell bl0 (.slice none 0 0) (.slice none 0 0) i) := by
    have h := World.ownsRow_lit (base := w.heap.size) (e := 43) (size := 9) w #[.int .i64 0, .int .i64 0, .int .i64 0, .int .i64 0, .int .u64 0, .bool false, .int .i64 0, .slice none 0 0, .slice none 0 0] 1 (Nat.le_refl _) (by decide) rfl
    exact h
  have hsz : ((w.alloc (.cells #[.int .i64 0, .int .i64 0, .int .i64 0, .int .i64 0, .int .u64 0, .bool false, .int .i64 0, .slice none 0 0, .slice none 0 0] 43)).drewN m).heap.size = w.heap.size + 1 := by simp
  refine ⟨fun _ => .slice none 0 0, ?_, ?_, ?_⟩
  · rw [hsz] at h1
    exact h1
  · exact h2.below (B := w.heap.size + 1) (by omega) ((bdrewN (Below.refl _ _) m).alloc (by simp) _)
  · exact (bdrewN ((Below.refl _ _).alloc (Nat.le_refl _) _) m).alloc (by simp) _
set_option linter.unusedSimpArgs false in
set_option maxRecDepth 100000 in
set_option maxHeartbeats 12800000 in
theorem block_any (A : Option Addr) (cap : Nat) (l : List Ev) (at_ : Nat) (w : World) (hl : l.length ≤ 1099511627776) (hat : at_ < l.length) (hc : EvR w w.heap.size A l) :
    Calls Try.prog 63 #[.slice A l.length cap, .int .i64 (at_ : Int)] w fun e w' => ∃ r t, e = .returned (.tuple #[blV (docB l at_).1 r t, .int .i64 ((docB l at_).2 : Int)]) ∧ OwnN w' w.heap.size r (docB l at_).1.rd ∧ OwnN w' w.heap.size t (docB l at_).1.wt ∧ Ap r t ∧ Below w.heap.size w w' := by
  have hget : l[at_]? = some l[at_] := List.getElem?_eq_getElem hat
  generalize l[at_] = e0 at hget
  have hrange := endF_range e0.th (l.drop (at_ + 1)) (at_ + 1) at_ (Nat.lt_succ_self _)
  have hc1 := (hc.below ((Below.refl w.heap.size w).alloc (Nat.le_refl _) (.cells #[.int .i64 0, .int .i64 0, .int .i64 0, .int .i64 0, .int .u64 0, .bool false, .int .i64 0, .slice none 0 0, .slice none 0 0] 43))).more (show w.heap.size ≤ (w.alloc (.cells #[.int .i64 0, .int .i64 0, .int .i64 0, .int .i64 0, .int .u64 0, .bool false, .int .i64 0, .slice none 0 0, .slice none 0 0] 43)).heap.size by simp)
  have hend := end_any A cap l at_ e0 _ hl hget hc1
  obtain ⟨z, ov, hE⟩ : ∃ z ov, endF e0.th (l.drop (at_ + 1)) (at_ + 1) at_ = (z, ov) := ⟨_, _, rfl⟩
  rw [docB_eq hget hE]
  rw [hE, show endV (z, ov) = .tuple #[.int .i64 (z : Int), .bool ov] from rfl] at hend
  rw [hE] at hrange
  have hz1 : at_ ≤ z := hrange.1
  have hz2 : z < l.length := by have := hrange.2; simp at this; omega
  obtain ⟨S, hS⟩ : ∃ S, S = bfo e0.th (bs0 at_) (l.drop at_) at_ (z + 1 - at_) := ⟨_, rfl⟩
  rw [← hS]
  obtain ⟨FB, hFB⟩ : ∃ FB, FB = finB e0.th at_ z ov (l.getD z ev0) S := ⟨_, rfl⟩
  obtain ⟨LK, hLK⟩ : ∃ LK, LK = S.look := ⟨_, rfl⟩
  rw [← hFB, ← hLK]
  dsimp only
  have HS := Lib.hid hS
  have HEND := Lib.hid hend
  have HC := Lib.hid hc
  obtain ⟨eb, eo, e0', hA, heb, hg', hwd0, e0c, e1c, e2c, e3c, e4c, e5c⟩ := hc.at_ (Below.refl _ _) hat
  have he0 : e0' = e0 := by
    have := hg'.out.symm.trans hget
    simpa using this
  subst he0
  have HGET := Lib.hid hget
  have HLK := Lib.hid hLK
  clear hS hend hc hc1 hE hrange hg' hget hLK
  subst hA
  obtain ⟨t0, k0, a0, x0, o0, er0⟩ := e0'
  simp only at e0c HS hFB
  have HFB := Lib.hid hFB
  clear hFB
  have HC0 := Lib.hid e0c
  clear e1c e2c e3c e4c e5c
  have i1 : (0 : Int) ≤ (at_ : Int) := by omega
  have i2 : (at_ : Int) < (l.length : Int) := by omega
  go_enter Try.func63, Try.ntmps63
  go_wp2_with (go_at_call 99; refine HEND.out.mono ?_; rintro e w' ⟨rfl, m, rfl⟩)
  obtain ⟨hd, hD⟩ := DocI.start w t0 at_ z m
  have HD := Lib.hid hD
  clear hD HEND

  go_loopw [11, 9, 10] (fun i v k wr => ∃ (p : Nat) (s : BS) (hd : Nat → Value), p ≤ z + 1 ∧ i = .int .i64 p ∧ v = .int .i64 s.look ∧ k = .bool s.lk ∧ Hid (DocI w wr ⟨t0, 5, at_, z, s.num, false, 0, s.rd, s.wt⟩ hd) ∧ Hid (S = bfo t0 s (l.drop p) p (z + 1 - p)) ∧ s.rd.length ≤ p ∧ s.wt.length ≤ p) (fun i _ _ _ => z + 1 - (intOf i).toNat)
  case atStart => exact ⟨at_, bs0 at_, hd, by omega, by go_num, rfl, rfl, HD, HS, Nat.zero_le _, Nat.zero_le _⟩
  case round =>
    obtain ⟨p, s, hd, hp, rfl, rfl, rfl, HI, HX, hlr, hlw⟩ := hrel
    clear HD HS
    obtain ⟨num, rd, wt, look, lk⟩ := s
    simp only at hlr hlw
    have hgw := HI.out.lt
    obtain ⟨hgb, ho0, ho1, hap, c0, c1, c2, c3, c4, c5, c6, c7, c8⟩ := HI.out.hb.one
    have hfr := HI.out.hb.frozen
    simp only at c0 c1 c2 c3 c4 c5 c6 c7 c8 ho0 ho1
    have f1 := hfr 1
    have f4 := hfr 4
    have f5 := hfr 5
    have f6 := hfr 6
    have f7 := hfr 7
    have f8 := hfr 8
    clear hfr hgb
    by_cases hlt : p ≤ z
    · obtain ⟨eb', eo', e, hA, _, he, hwd, b0, b1, b2, b3, b4, b5⟩ := HC.out.at_ HI.out.bel (show p < l.length by omega)
      injection hA with hA
      injection hA with q1 q2
      subst q1 q2
      have hst := HX.out
      rw [bfo_step he.out hlt] at hst
      obtain ⟨t, k, a, x, o, er⟩ := e
      simp only at b0 b1 b2 b3 b4 b5
      have HST := Lib.hid hst
      have i3 : (0 : Int) ≤ (p : Int) := by omega
      have i4 : (p : Int) < (l.length : Int) := by omega
      have i5 : (p : Int) ≤ (z : Int) := by omega
      have hal : Below wr.heap.size wr (wr.alloc (.cells #[.int .i64 t, .int .i64 k, .int .u64 a, .int .u64 x, .bool o, .int .i64 er] 97)) := (Below.refl _ _).alloc (Nat.le_refl _) _
      have hx := hwd.2
      simp only at hx
      have HAL := Lib.hid hal
      have HO0 := Lib.hid ho0
      have HO1 := Lib.hid ho1
      clear hst he HX hwd hal ho0 ho1 HC0 HGET hap
      by_cases htt : t = t0
      · subst htt
        have e1 : (t != t) = false := by simp
        by_cases k14 : k = 1 ∨ k = 4
        · have HX2 := Lib.hid (show S = bfo t ⟨x / 2, rd, wt, p, lk⟩ (l.drop (p + 1)) (p + 1) (z + 1 - (p + 1)) by rw [HST.out]; simp [bst, k14])
          have hdiv : x.tdiv 2 = x / 2 := Int.tdiv_eq_ediv_of_nonneg hx.1
          have hw : IntKind.u64.wrap (x / 2) = x / 2 := by
            simp only [IntKind.wrap, IntKind.signed, IntKind.bits]
            simp
            omega
          have HI2 := Lib.hid ((HI.out.set 4 (.int .u64 (x / 2)) (b' := ⟨t, 5, at_, z, x / 2, false, 0, rd, wt⟩) (by decide) (by
            intro i hi
            have : i = 0 ∨ i = 1 ∨ i = 2 ∨ i = 3 ∨ i = 4 ∨ i = 5 ∨ i = 6 ∨ i = 7 ∨ i = 8 := by omega
            rcases this with rfl | rfl | rfl | rfl | rfl | rfl | rfl | rfl | rfl <;> simp [bcell]) rfl rfl).keep ((Below.refl _ _).alloc (Nat.le_refl _) (.cells #[.int .i64 t, .int .i64 k, .int .u64 a, .int .u64 x, .bool o, .int .i64 er] 97)))
          clear HST HI HO0 HO1
          have hk : k = 1 ∨ (k == 1) = false ∧ k = 4 := by
            rcases k14 with q | q
            · exact .inl q
            · exact .inr ⟨by rw [q]; rfl, q⟩
          clear k14
          rcases hk with rfl | ⟨hk1, rfl⟩
          all_goals
            go_wp2
            go_roundw
            case rel => exact ⟨p + 1, ⟨x / 2, rd, wt, p, lk⟩, hd, by omega, by go_num, rfl, rfl, HI2, HX2, by simp only; omega, by simp only; omega⟩
            case measure => simp [intOf]; omega
        · have k1 : (k == 1) = false := by simp; exact fun q => k14 (.inl q)
          have k4 : (k == 4) = false := by simp; exact fun q => k14 (.inr q)
          have N14 := Lib.hid k14
          clear k14
          by_cases k2 : k = 2
          · subst k2
            cases o with
            | true =>
              have HX2 := Lib.hid (show S = bfo t ⟨num, rd, wt, look, lk⟩ (l.drop (p + 1)) (p + 1) (z + 1 - (p + 1)) by rw [HST.out]; simp [bst])
              have HI2 := Lib.hid (HI.out.keep HAL.out)
              clear HST HI HO0 HO1 HAL N14
              go_wp2
              go_roundw
              case rel => exact ⟨p + 1, ⟨num, rd, wt, look, lk⟩, hd, by omega, by go_num, rfl, rfl, HI2, HX2, by simp only; omega, by simp only; omega⟩
              case measure => simp [intOf]; omega
            | false =>
              have HX2 := Lib.hid (show S = bfo t ⟨num, rd ++ [(a, x)], wt, look, lk⟩ (l.drop (p + 1)) (p + 1) (z + 1 - (p + 1)) by rw [HST.out]; simp [bst])
              obtain ⟨Aa, ca, hha⟩ := own_shape HO0.out
              have hrow := HO0.out
              have HA := Lib.hid hha
              rw [hha] at hrow c7
              have hne := HI.out.hb.ne (i := 0) (by decide)
              rw [hha] at hne
              have hne0 : some (w.heap.size + 1) ≠ (Value.slice Aa rd.length ca).ownBlock := fun e => hne (w.heap.size + 1) e.symm rfl
              have hnb : ∀ g', (Value.slice Aa rd.length ca).ownBlock = some g' → g' < wr.heap.size := fun g' hg' => (OwnN.lt hrow g' hg').2
              obtain ⟨l0, hl0⟩ : ∃ l0, l0 = rd := ⟨_, rfl⟩
              have HL0 := Lib.hid hl0
              rw [← hl0] at c7 hrow hne0 hnb hlr HA
              have hl0l : l0.length ≤ 1099511627776 := by omega
              have hrow' : wr.ownsRow (w.heap.size + 1) 47 3 (.slice Aa l0.length ca) l0.length (l0.flatMap ncell) := hrow
              clear hl0 hha hrow hne HST HO0 HO1 HAL
              go_wp2_with (at_builtin; refine halt_ ?_)
              refine Halt_.go ?_
              refine wl_append1 _ (by rfl) (.tmp 59) (.tmp 65) 41 (by rfl) (w.heap.size + 1) 47 _ 3 24 info47 Try.underlying41 rfl (by decide) (.slice Aa l0.length ca) l0.length (l0.flatMap ncell) (by rfl) ((hrow'.alloc _).alloc _) (wr.heap.size + 1) 1 [.int .u64 a, .int .u64 x, .bool false] (by rfl) (heap_at _ _ _ (by simp)) rfl (by simp [Value.oneCell']) (by omega) (by omega) (by simp; omega) _ rfl ?_
              intro g2 cap2 w2 hown2 hgr0 hat0 hlt2
              have hgr := grown_trans (grown_trans (World.grownBy_alloc wr _ _) (World.grownBy_alloc _ _ _)) hgr0
              have hat : (Value.slice (some ⟨g2, 0, none⟩) (l0.length + 1) cap2).ownBlock = (Value.slice Aa l0.length ca).ownBlock ∨ ∃ g', (Value.slice (some ⟨g2, 0, none⟩) (l0.length + 1) cap2).ownBlock = some g' ∧ wr.heap.size ≤ g' := by
                rcases hat0 with h1 | h1
                · exact .inl h1.symm
                · right
                  refine ⟨g2, rfl, ?_⟩
                  simp at h1
                  omega
              have hq2 : w2.cell? ⟨w.heap.size + 1, 7, none⟩ = some (.slice Aa l0.length ca) := hgr.cell c7 hne0
              have hq3 : w2.frozen? ⟨w.heap.size + 1, 7, none⟩ = false := grown_frozen hgr (by omega) hne0 f7
              rw [← HA.out] at hgr hat
              have hl2 : ((l0 ++ [(a, x)]).flatMap ncell) = l0.flatMap ncell ++ [.int .u64 a, .int .u64 x, .bool false] := by simp [List.flatMap_append, ncell]
              have hD2 := HI.out.list (w2 := w2) 0 (by decide) (.slice (some ⟨g2, 0, none⟩) (l0.length + 1) cap2) (b' := ⟨t, 5, at_, z, num, false, 0, rd ++ [(a, x)], wt⟩) (by
                show w2.ownsRow (w.heap.size + 1) 47 3 _ (rd ++ [(a, x)]).length ((rd ++ [(a, x)]).flatMap ncell)
                rw [← HL0.out, hl2, List.length_append]
                exact hown2) hgr hat (fun i r t' hi => by
                have : i = 0 ∨ i = 1 ∨ i = 2 ∨ i = 3 ∨ i = 4 ∨ i = 5 ∨ i = 6 := by omega
                rcases this with rfl | rfl | rfl | rfl | rfl | rfl | rfl <;> rfl) rfl
              obtain ⟨hd', hD2⟩ := hD2
              have HI2 := Lib.hid hD2
              have hsz2 := hgr.size
              have hlL : rd.length ≤ p := by rw [← HL0.out]; omega
              clear hD2 hgr hat hown2 hgr0 hat0 hl2 hrow' HI HA c1 c2 c3 c4 c5 c6 c7 c8
              go_wp2
              go_roundw
              case rel => exact ⟨p + 1, ⟨num, rd ++ [(a, x)], wt, look, lk⟩, hd', by omega, by go_num, rfl, rfl, HI2, HX2, by simp; omega, by simp; omega⟩
              case measure => simp [intOf]; omega
          · have k2' : (k == 2) = false := by simpa using k2
            by_cases k3 : k = 3
            · subst k3
              have HX2 := Lib.hid (show S = bfo t ⟨num, rd, wt ++ [(a, x)], look, lk⟩ (l.drop (p + 1)) (p + 1) (z + 1 - (p + 1)) by rw [HST.out]; simp [bst])
              obtain ⟨Aa, ca, hha⟩ := own_shape HO1.out
              have hrow := HO1.out
              have HA := Lib.hid hha
              rw [hha] at hrow c8
              have hne := HI.out.hb.ne (i := 1) (by decide)
              rw [hha] at hne
              have hne0 : some (w.heap.size + 1) ≠ (Value.slice Aa wt.length ca).ownBlock := fun e => hne (w.heap.size + 1) e.symm rfl
              have hnb : ∀ g', (Value.slice Aa wt.length ca).ownBlock = some g' → g' < wr.heap.size := fun g' hg' => (OwnN.lt hrow g' hg').2
              obtain ⟨l0, hl0⟩ : ∃ l0, l0 = wt := ⟨_, rfl⟩
              have HL0 := Lib.hid hl0
              rw [← hl0] at c8 hrow hne0 hnb hlw HA
              have hl0l : l0.length ≤ 1099511627776 := by omega
              have hrow' : wr.ownsRow (w.heap.size + 1) 47 3 (.slice Aa l0.length ca) l0.length (l0.flatMap ncell) := hrow
              clear hl0 hha hrow hne HST HO0 HO1 HAL
              go_wp2_with (at_builtin; refine halt_ ?_)
              refine Halt_.go ?_
              refine wl_append1 _ (by rfl) (.tmp 71) (.tmp 77) 41 (by rfl) (w.heap.size + 1) 47 _ 3 24 info47 Try.underlying41 rfl (by decide) (.slice Aa l0.length ca) l0.length (l0.flatMap ncell) (by rfl) ((hrow'.alloc _).alloc _) (wr.heap.size + 1) 1 [.int .u64 a, .int .u64 x, .bool false] (by rfl) (heap_at _ _ _ (by simp)) rfl (by simp [Value.oneCell']) (by omega) (by omega) (by simp; omega) _ rfl ?_
              intro g2 cap2 w2 hown2 hgr0 hat0 hlt2
              have hgr := grown_trans (grown_trans (World.grownBy_alloc wr _ _) (World.grownBy_alloc _ _ _)) hgr0
              have hat : (Value.slice (some ⟨g2, 0, none⟩) (l0.length + 1) cap2).ownBlock = (Value.slice Aa l0.length ca).ownBlock ∨ ∃ g', (Value.slice (some ⟨g2, 0, none⟩) (l0.length + 1) cap2).ownBlock = some g' ∧ wr.heap.size ≤ g' := by
                rcases hat0 with h1 | h1
                · exact .inl h1.symm
                · right
                  refine ⟨g2, rfl, ?_⟩
                  simp at h1
                  omega
              have hq2 : w2.cell? ⟨w.heap.size + 1, 8, none⟩ = some (.slice Aa l0.length ca) := hgr.cell c8 hne0
              have hq3 : w2.frozen? ⟨w.heap.size + 1, 8, none⟩ = false := grown_frozen hgr (by omega) hne0 f8
              rw [← HA.out] at hgr hat
              have hl2 : ((l0 ++ [(a, x)]).flatMap ncell) = l0.flatMap ncell ++ [.int .u64 a, .int .u64 x, .bool false] := by simp [List.flatMap_append, ncell]
              have hD2 := HI.out.list (w2 := w2) 1 (by decide) (.slice (some ⟨g2, 0, none⟩) (l0.length + 1) cap2) (b' := ⟨t, 5, at_, z, num, false, 0, rd, wt ++ [(a, x)]⟩) (by
                show w2.ownsRow (w.heap.size + 1) 47 3 _ (wt ++ [(a, x)]).length ((wt ++ [(a, x)]).flatMap ncell)
                rw [← HL0.out, hl2, List.length_append]
                exact hown2) hgr hat (fun i r t' hi => by
                have : i = 0 ∨ i = 1 ∨ i = 2 ∨ i = 3 ∨ i = 4 ∨ i = 5 ∨ i = 6 := by omega
                rcases this with rfl | rfl | rfl | rfl | rfl | rfl | rfl <;> rfl) rfl
              obtain ⟨hd', hD2⟩ := hD2
              have HI2 := Lib.hid hD2
              have hsz2 := hgr.size
              have hlL : wt.length ≤ p := by rw [← HL0.out]; omega
              clear hD2 hgr hat hown2 hgr0 hat0 hl2 hrow' HI HA c1 c2 c3 c4 c5 c6 c7 c8
              go_wp2
              go_roundw
              case rel => exact ⟨p + 1, ⟨num, rd, wt ++ [(a, x)], look, lk⟩, hd', by omega, by go_num, rfl, rfl, HI2, HX2, by simp; omega, by simp; omega⟩
              case measure => simp [intOf]; omega
            · have k3' : (k == 3) = false := by simpa using k3
              by_cases k5 : k = 5
              · subst k5
                have HX2 := Lib.hid (show S = bfo t ⟨num, rd, wt, look, true⟩ (l.drop (p + 1)) (p + 1) (z + 1 - (p + 1)) by rw [HST.out]; simp [bst])
                have HI2 := Lib.hid (HI.out.keep HAL.out)
                clear HST HI HO0 HO1 HAL N14 k2 k3
                go_wp2
                go_roundw
                case rel => exact ⟨p + 1, ⟨num, rd, wt, look, true⟩, hd, by omega, by go_num, rfl, rfl, HI2, HX2, by simp only; omega, by simp only; omega⟩
                case measure => simp [intOf]; omega
              · have k5' : (k == 5) = false := by simpa using k5
                have HX2 := Lib.hid (show S = bfo t ⟨num, rd, wt, look, lk⟩ (l.drop (p + 1)) (p + 1) (z + 1 - (p + 1)) by rw [HST.out]; unfold bst; rw [if_neg (by simp), if_neg N14.out, if_neg k2, if_neg k3, if_neg k5])
                have HI2 := Lib.hid (HI.out.keep HAL.out)
                clear HST HI HO0 HO1 HAL N14 k2 k3 k5
                go_wp2
                go_roundw
                case rel => exact ⟨p + 1, ⟨num, rd, wt, look, lk⟩, hd, by omega, by go_num, rfl, rfl, HI2, HX2, by simp only; omega, by simp only; omega⟩
                case measure => simp [intOf]; omega
      · have HX2 := Lib.hid (show S = bfo t0 ⟨num, rd, wt, look, lk⟩ (l.drop (p + 1)) (p + 1) (z + 1 - (p + 1)) by rw [HST.out]; simp [bst, htt])
        have e1 : (t != t0) = true := by simpa using htt
        have HI2 := Lib.hid (HI.out.keep HAL.out)
        clear HST HI HO0 HO1 HAL htt
        go_wp2
        go_roundw
        case rel => exact ⟨p + 1, ⟨num, rd, wt, look, lk⟩, hd, by omega, by go_num, rfl, rfl, HI2, HX2, by simp only; omega, by simp only; omega⟩
        case measure => simp [intOf]; omega
    · obtain rfl : p = z + 1 := by omega
      have hst := HX.out
      rw [bfo_end (Nat.lt_succ_self z)] at hst
      have HS2 := Lib.hid hst
      clear hst HX HC0 hap hlr hlw hlt hp
      obtain ⟨eb', eo', e, hA, _, he, hwd, b0, b1, b2, b3, b4, b5⟩ := HC.out.at_ HI.out.bel hz2
      injection hA with hA
      injection hA with q1 q2
      subst q1 q2
      have hgz : Hid (l.getD z ev0 = e) := by
        have := he.out
        show l.getD z ev0 = e
        simp [List.getD, this]
      obtain ⟨tz, k, a, x, o, er⟩ := e
      simp only at b0 b1 b2 b3 b4 b5
      obtain rfl : LK = look := by rw [HLK.out, HS2.out]
      obtain ⟨Ar, cr, hA0'⟩ := own_shape ho0
      obtain ⟨At, ct, hA1'⟩ := own_shape ho1
      rw [hA0'] at c7
      rw [hA1'] at c8
      have hA0 := Lib.hid hA0'
      have hA1 := Lib.hid hA1'
      have i3 : (0 : Int) ≤ (z : Int) := by omega
      have i4 : (z : Int) < (l.length : Int) := by omega
      have i5 : ¬ ((z + 1 : Nat) : Int) ≤ (z : Int) := by omega
      have hzl : w.heap.size < wr.heap.size := by omega
      have zc0 := (HI.out.zb.cell (j := 0) (by decide)).1
      have zf0 := (HI.out.zb.cell (j := 0) (by decide)).2
      have zc1 := (HI.out.zb.cell (j := 1) (by decide)).1
      have zf1 := (HI.out.zb.cell (j := 1) (by decide)).2
      have zc2 := (HI.out.zb.cell (j := 2) (by decide)).1
      have zf2 := (HI.out.zb.cell (j := 2) (by decide)).2
      have zc3 := (HI.out.zb.cell (j := 3) (by decide)).1
      have zf3 := (HI.out.zb.cell (j := 3) (by decide)).2
      have zc4 := (HI.out.zb.cell (j := 4) (by decide)).1
      have zf4 := (HI.out.zb.cell (j := 4) (by decide)).2
      have zc5 := (HI.out.zb.cell (j := 5) (by decide)).1
      have zf5 := (HI.out.zb.cell (j := 5) (by decide)).2
      have zc6 := (HI.out.zb.cell (j := 6) (by decide)).1
      have zf6 := (HI.out.zb.cell (j := 6) (by decide)).2
      have zc7 := (HI.out.zb.cell (j := 7) (by decide)).1
      have zf7 := (HI.out.zb.cell (j := 7) (by decide)).2
      have zc8 := (HI.out.zb.cell (j := 8) (by decide)).1
      have zf8 := (HI.out.zb.cell (j := 8) (by decide)).2
      clear he hwd HC HGET ho0 ho1 hA0' hA1' HLK
      cases ov with
      | false =>
        obtain rfl : FB = ⟨t0, 5, at_, z, num, false, 0, rd, wt⟩ := by rw [HFB.out, HS2.out, hgz.out]; simp [finB]
        have HF := HI.out
        have hcd := (HF.hb.one)
        obtain ⟨W, hW, hcells, hr, ht, hap, hbel⟩ := HF.fin (.int .i64 t0) (.int .i64 5) (.int .i64 (at_ : Int)) (.int .i64 (z : Int)) (.int .u64 num) (.bool false) (.int .i64 0) (.slice Ar rd.length cr) (.slice At wt.length ct) (by rw [hA0.out, hA1.out]; rfl)
        rw [hA0.out] at hr hap hcells
        rw [hA1.out] at ht hap hcells
        have HW := Lib.hid hW
        have HR := Lib.hid hr
        have HT := Lib.hid ht
        have HAP := Lib.hid hap
        have HBEL := Lib.hid hbel
        have q0 := hcells 0 (by decide)
        have q1 := hcells 1 (by decide)
        have q2 := hcells 2 (by decide)
        have q3 := hcells 3 (by decide)
        have q4 := hcells 4 (by decide)
        have q5 := hcells 5 (by decide)
        have q6 := hcells 6 (by decide)
        have q7 := hcells 7 (by decide)
        have q8 := hcells 8 (by decide)
        clear HF hcd hW hr ht hap hbel hcells HI HFB HS2 hgz
        go_wp2
        rw [← HW.out]
        refine bodyPost_ret (v := .tuple #[blV ⟨t0, 5, at_, z, num, false, 0, rd, wt⟩ (.slice Ar rd.length cr) (.slice At wt.length ct), .int .i64 (LK : Int)]) (by simp [results, Try.results63, go_sem, q0, q1, q2, q3, q4, q5, q6, q7, q8, bcell]) rfl ?_
        exact ⟨_, _, rfl, HR.out, HT.out, HAP.out, HBEL.out⟩
      | true =>
        by_cases k6 : k = 6
        · subst k6
          obtain rfl : FB = ⟨t0, 1, at_, z, x, lk, 0, rd, wt⟩ := by rw [HFB.out, HS2.out, hgz.out]; simp [finB]
          have HF := (((HI.out.set 1 (.int .i64 1) (b' := ⟨t0, 1, at_, z, num, false, 0, rd, wt⟩) (by decide) (fun i hi => by rcases nine hi with rfl | rfl | rfl | rfl | rfl | rfl | rfl | rfl | rfl <;> simp [bcell]) rfl rfl).set 5 (.bool lk) (b' := ⟨t0, 1, at_, z, num, lk, 0, rd, wt⟩) (by decide) (fun i hi => by rcases nine hi with rfl | rfl | rfl | rfl | rfl | rfl | rfl | rfl | rfl <;> simp [bcell]) rfl rfl).set 4 (.int .u64 x) (b' := ⟨t0, 1, at_, z, x, lk, 0, rd, wt⟩) (by decide) (fun i hi => by rcases nine hi with rfl | rfl | rfl | rfl | rfl | rfl | rfl | rfl | rfl <;> simp [bcell]) rfl rfl)
          have hcd := (HF.hb.one)
          obtain ⟨W, hW, hcells, hr, ht, hap, hbel⟩ := HF.fin (.int .i64 t0) (.int .i64 1) (.int .i64 (at_ : Int)) (.int .i64 (z : Int)) (.int .u64 x) (.bool lk) (.int .i64 0) (.slice Ar rd.length cr) (.slice At wt.length ct) (by rw [hA0.out, hA1.out]; rfl)
          rw [hA0.out] at hr hap hcells
          rw [hA1.out] at ht hap hcells
          have HW := Lib.hid hW
          have HR := Lib.hid hr
          have HT := Lib.hid ht
          have HAP := Lib.hid hap
          have HBEL := Lib.hid hbel
          have q0 := hcells 0 (by decide)
          have q1 := hcells 1 (by decide)
          have q2 := hcells 2 (by decide)
          have q3 := hcells 3 (by decide)
          have q4 := hcells 4 (by decide)
          have q5 := hcells 5 (by decide)
          have q6 := hcells 6 (by decide)
          have q7 := hcells 7 (by decide)
          have q8 := hcells 8 (by decide)
          clear HF hcd hW hr ht hap hbel hcells HI HFB HS2 hgz
          go_wp2
          rw [← HW.out]
          refine bodyPost_ret (v := .tuple #[blV ⟨t0, 1, at_, z, x, lk, 0, rd, wt⟩ (.slice Ar rd.length cr) (.slice At wt.length ct), .int .i64 (LK : Int)]) (by simp [results, Try.results63, go_sem, q0, q1, q2, q3, q4, q5, q6, q7, q8, bcell]) rfl ?_
          exact ⟨_, _, rfl, HR.out, HT.out, HAP.out, HBEL.out⟩
        · have k6' : (k == 6) = false := by simpa using k6
          by_cases k8 : k = 8
          · subst k8
            obtain rfl : FB = ⟨t0, 2, at_, z, num, false, 0, rd, wt⟩ := by rw [HFB.out, HS2.out, hgz.out]; simp [finB]
            have HF := (HI.out.set 1 (.int .i64 2) (b' := ⟨t0, 2, at_, z, num, false, 0, rd, wt⟩) (by decide) (fun i hi => by rcases nine hi with rfl | rfl | rfl | rfl | rfl | rfl | rfl | rfl | rfl <;> simp [bcell]) rfl rfl)
            have hcd := (HF.hb.one)
            obtain ⟨W, hW, hcells, hr, ht, hap, hbel⟩ := HF.fin (.int .i64 t0) (.int .i64 2) (.int .i64 (at_ : Int)) (.int .i64 (z : Int)) (.int .u64 num) (.bool false) (.int .i64 0) (.slice Ar rd.length cr) (.slice At wt.length ct) (by rw [hA0.out, hA1.out]; rfl)
            rw [hA0.out] at hr hap hcells
            rw [hA1.out] at ht hap hcells
            have HW := Lib.hid hW
            have HR := Lib.hid hr
            have HT := Lib.hid ht
            have HAP := Lib.hid hap
            have HBEL := Lib.hid hbel
            have q0 := hcells 0 (by decide)
            have q1 := hcells 1 (by decide)
            have q2 := hcells 2 (by decide)
            have q3 := hcells 3 (by decide)
            have q4 := hcells 4 (by decide)
            have q5 := hcells 5 (by decide)
            have q6 := hcells 6 (by decide)
            have q7 := hcells 7 (by decide)
            have q8 := hcells 8 (by decide)
            clear HF hcd hW hr ht hap hbel hcells HI HFB HS2 hgz
            go_wp2
            rw [← HW.out]
            refine bodyPost_ret (v := .tuple #[blV ⟨t0, 2, at_, z, num, false, 0, rd, wt⟩ (.slice Ar rd.length cr) (.slice At wt.length ct), .int .i64 (LK : Int)]) (by simp [results, Try.results63, go_sem, q0, q1, q2, q3, q4, q5, q6, q7, q8, bcell]) rfl ?_
            exact ⟨_, _, rfl, HR.out, HT.out, HAP.out, HBEL.out⟩
          · have k8' : (k == 8) = false := by simpa using k8
            by_cases k9 : k = 9
            · subst k9
              obtain rfl : FB = ⟨t0, 3, at_, z, num, false, er, rd, wt⟩ := by rw [HFB.out, HS2.out, hgz.out]; simp [finB]
              have HF := ((HI.out.set 1 (.int .i64 3) (b' := ⟨t0, 3, at_, z, num, false, 0, rd, wt⟩) (by decide) (fun i hi => by rcases nine hi with rfl | rfl | rfl | rfl | rfl | rfl | rfl | rfl | rfl <;> simp [bcell]) rfl rfl).set 6 (.int .i64 er) (b' := ⟨t0, 3, at_, z, num, false, er, rd, wt⟩) (by decide) (fun i hi => by rcases nine hi with rfl | rfl | rfl | rfl | rfl | rfl | rfl | rfl | rfl <;> simp [bcell]) rfl rfl)
              have hcd := (HF.hb.one)
              obtain ⟨W, hW, hcells, hr, ht, hap, hbel⟩ := HF.fin (.int .i64 t0) (.int .i64 3) (.int .i64 (at_ : Int)) (.int .i64 (z : Int)) (.int .u64 num) (.bool false) (.int .i64 er) (.slice Ar rd.length cr) (.slice At wt.length ct) (by rw [hA0.out, hA1.out]; rfl)
              rw [hA0.out] at hr hap hcells
              rw [hA1.out] at ht hap hcells
              have HW := Lib.hid hW
              have HR := Lib.hid hr
              have HT := Lib.hid ht
              have HAP := Lib.hid hap
              have HBEL := Lib.hid hbel
              have q0 := hcells 0 (by decide)
              have q1 := hcells 1 (by decide)
              have q2 := hcells 2 (by decide)
              have q3 := hcells 3 (by decide)
              have q4 := hcells 4 (by decide)
              have q5 := hcells 5 (by decide)
              have q6 := hcells 6 (by decide)
              have q7 := hcells 7 (by decide)
              have q8 := hcells 8 (by decide)
              clear HF hcd hW hr ht hap hbel hcells HI HFB HS2 hgz
              go_wp2
              rw [← HW.out]
              refine bodyPost_ret (v := .tuple #[blV ⟨t0, 3, at_, z, num, false, er, rd, wt⟩ (.slice Ar rd.length cr) (.slice At wt.length ct), .int .i64 (LK : Int)]) (by simp [results, Try.results63, go_sem, q0, q1, q2, q3, q4, q5, q6, q7, q8, bcell]) rfl ?_
              exact ⟨_, _, rfl, HR.out, HT.out, HAP.out, HBEL.out⟩
            · have k9' : (k == 9) = false := by simpa using k9
              by_cases k7 : k = 7
              · subst k7
                obtain rfl : FB = ⟨t0, 4, at_, z, num, false, 0, rd, wt⟩ := by rw [HFB.out, HS2.out, hgz.out]; simp [finB]
                have HF := (HI.out.set 1 (.int .i64 4) (b' := ⟨t0, 4, at_, z, num, false, 0, rd, wt⟩) (by decide) (fun i hi => by rcases nine hi with rfl | rfl | rfl | rfl | rfl | rfl | rfl | rfl | rfl <;> simp [bcell]) rfl rfl)
                have hcd := (HF.hb.one)
                obtain ⟨W, hW, hcells, hr, ht, hap, hbel⟩ := HF.fin (.int .i64 t0) (.int .i64 4) (.int .i64 (at_ : Int)) (.int .i64 (z : Int)) (.int .u64 num) (.bool false) (.int .i64 0) (.slice Ar rd.length cr) (.slice At wt.length ct) (by rw [hA0.out, hA1.out]; rfl)
                rw [hA0.out] at hr hap hcells
                rw [hA1.out] at ht hap hcells
                have HW := Lib.hid hW
                have HR := Lib.hid hr
                have HT := Lib.hid ht
                have HAP := Lib.hid hap
                have HBEL := Lib.hid hbel
                have q0 := hcells 0 (by decide)
                have q1 := hcells 1 (by decide)
                have q2 := hcells 2 (by decide)
                have q3 := hcells 3 (by decide)
                have q4 := hcells 4 (by decide)
                have q5 := hcells 5 (by decide)
                have q6 := hcells 6 (by decide)
                have q7 := hcells 7 (by decide)
                have q8 := hcells 8 (by decide)
                clear HF hcd hW hr ht hap hbel hcells HI HFB HS2 hgz
                go_wp2
                rw [← HW.out]
                refine bodyPost_ret (v := .tuple #[blV ⟨t0, 4, at_, z, num, false, 0, rd, wt⟩ (.slice Ar rd.length cr) (.slice At wt.length ct), .int .i64 (LK : Int)]) (by simp [results, Try.results63, go_sem, q0, q1, q2, q3, q4, q5, q6, q7, q8, bcell]) rfl ?_
                exact ⟨_, _, rfl, HR.out, HT.out, HAP.out, HBEL.out⟩
              · have k7' : (k == 7) = false := by simpa using k7
                obtain rfl : FB = ⟨t0, 5, at_, z, num, false, 0, rd, wt⟩ := by rw [HFB.out, HS2.out, hgz.out]; simp [finB, k6, k8, k9, k7]
                have HF := HI.out
                have hcd := (HF.hb.one)
                obtain ⟨W, hW, hcells, hr, ht, hap, hbel⟩ := HF.fin (.int .i64 t0) (.int .i64 5) (.int .i64 (at_ : Int)) (.int .i64 (z : Int)) (.int .u64 num) (.bool false) (.int .i64 0) (.slice Ar rd.length cr) (.slice At wt.length ct) (by rw [hA0.out, hA1.out]; rfl)
                rw [hA0.out] at hr hap hcells
                rw [hA1.out] at ht hap hcells
                have HW := Lib.hid hW
                have HR := Lib.hid hr
                have HT := Lib.hid ht
                have HAP := Lib.hid hap
                have HBEL := Lib.hid hbel
                have q0 := hcells 0 (by decide)
                have q1 := hcells 1 (by decide)
                have q2 := hcells 2 (by decide)
                have q3 := hcells 3 (by decide)
                have q4 := hcells 4 (by decide)
                have q5 := hcells 5 (by decide)
                have q6 := hcells 6 (by decide)
                have q7 := hcells 7 (by decide)
                have q8 := hcells 8 (by decide)
                clear HF hcd hW hr ht hap hbel hcells HI HFB HS2 hgz
                go_wp2
                rw [← HW.out]
                refine bodyPost_ret (v := .tuple #[blV ⟨t0, 5, at_, z, num, false, 0, rd, wt⟩ (.slice Ar rd.length cr) (.slice At wt.length ct), .int .i64 (LK : Int)]) (by simp [results, Try.results63, go_sem, q0, q1, q2, q3, q4, q5, q6, q7, q8, bcell]) rfl ?_
                exact ⟨_, _, rfl, HR.out, HT.out, HAP.out, HBEL.out⟩
end Go.Proofs.Ytjifpjfinffamaa
end
