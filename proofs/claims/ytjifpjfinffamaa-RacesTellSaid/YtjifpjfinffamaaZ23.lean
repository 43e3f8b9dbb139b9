/- Texts R15 X2 R20 R21, laid together. -/
import Derived.Test.YtjifpjfinffamaaZ3
import Derived.Test.YtjifpjfinffamaaZ20
import Derived.Test.YtjifpjfinffamaaZ22
section
namespace Go.Proofs.Ytjifpjfinffamaa
open Go.RowKit Go.Maps
set_option maxRecDepth 100000 in
set_option maxHeartbeats 3200000 in
theorem racAcc_any (A : Option Addr) (cap : Nat) (l : List Ev) (w : World) (hl : l.length ≤ 1000) (hc : EvR w w.heap.size A l) :
    Calls Try.prog 45 #[.slice A l.length cap] w fun e w' => ((chk ss0 l 0).2 ≠ 0 ∧ e = .returned (.tuple #[.slice none 0 0, .int .i64 (chk ss0 l 0).2]) ∨
      chk ss0 l 0 = (-1, 0) ∧ ∃ Aa ca, e = .returned (.tuple #[.slice Aa (accL l (wBl l) l.length).length ca, .int .i64 0]) ∧ OwnA w' w.heap.size Aa ca (accL l (wBl l) l.length)) ∧ Below w.heap.size w w' := by
  have HE := Lib.hid (evCheck_any A cap l w (by omega) hc)
  have HWV := Lib.hid (fun W (hk : chk ss0 l 0 = (-1, 0)) (h : EvR W W.heap.size A l) => weave_any A cap l W (by omega) hk h)
  have HBO := Lib.hid (fun (hk : chk ss0 l 0 = (-1, 0)) => HBk.of (l := l) (by omega) hk)
  have HAC := Lib.hid (fun (hi gW gF : Nat) (Ap : Option Addr) (cp : Nat) (Ab : Option Addr) (cb : Nat) (hd : Nat → Value) (sn : Nat → Nat → Nat) (tn : Nat → Nat) (W : World) (h : WebR W hi gW gF Ap cp Ab cb hd l (wBl l) (wLk l) sn tn) (hB : HBk l (wBl l) (wLk l)) (hhi : hi ≤ W.heap.size) (hc : EvR W W.heap.size A l) => accesses_any hi gW gF Ap cp Ab cb hd l (wBl l) (wLk l) sn tn A cap W h hB hhi hc (by omega))
  have HC := Lib.hid hc
  have HK := Lib.hid (chk_cases l 0 ss0)
  clear hc
  generalize chk ss0 l 0 = R at *
  obtain ⟨x, y⟩ := R
  have hq : y = 0 ∧ x = -1 ∨ y ≠ 0 := by
    rcases HK.out with h | h
    · injection h with h1 h2
      exact .inl ⟨h2, h1⟩
    · exact .inr h
  rcases hq with ⟨rfl, rfl⟩ | hy
  · have HB0 := Lib.hid (HBO.out rfl)
    go_enter Try.func45, Try.ntmps45
    go_wp2_with (go_at_call 59; refine halt_ ?_)
    refine Halt_.go ?_
    refine HE.out.mono ?_
    rintro e w1 ⟨rfl, hb1⟩
    have hsz := hb1.size
    unfold oddV
    have hb2 := hb1.alloc hsz (.cells #[.int .i64 (-1), .int .i64 0] 99)
    have hcut := HWV.out (w1.alloc (.cells #[.int .i64 (-1), .int .i64 0] 99)) trivial ((HC.out.below hb2).more (by simp; omega))
    obtain ⟨gW, hgW⟩ : ∃ g, g = (w1.alloc (.cells #[.int .i64 (-1), .int .i64 0] 99)).heap.size + 1 := ⟨_, rfl⟩
    rw [← hgW] at hcut
    clear hgW
    have HB2 := Lib.hid hb2
    have HCU := Lib.hid hcut
    clear hb1 hb2 hcut HWV HE HK HBO
    go_wp2_with (go_at_call 85; refine halt_ ?_)
    refine Halt_.go ?_
    refine HCU.out.mono ?_
    rintro e w2 ⟨rfl, h1, Ap, cp, Ab, cb, hd, sn, tn, h2⟩
    have hb3 := HB2.out.trans (h1.mono (by simp; omega))
    have HAC2 := Lib.hid (HAC.out _ _ _ _ _ _ _ _ _ _ w2 h2 HB0.out (Nat.le_refl _) ((HC.out.below hb3).more hb3.size))
    have HB3 := Lib.hid hb3
    clear h1 h2 hb3 HAC HB0
    go_wp2_with (go_at_call 86; refine halt_ ?_)
    refine Halt_.go ?_
    refine HAC2.out.mono ?_
    rintro e w3 ⟨Aa, ca, rfl, h1, h2⟩
    have HOA : Hid (OwnA w3 w.heap.size Aa ca (accL l (wBl l) l.length)) := own_base h1 HB3.out.size
    have HB4 := Lib.hid (HB3.out.trans (h2.mono HB3.out.size))
    clear h1 h2 HAC2
    go_wp2
    go_ret2
    exact ⟨.inr ⟨trivial, Aa, ca, rfl, HOA.out⟩, HB4.out⟩
  · have e1 : (y != 0) = true := by simpa using hy
    have HY := Lib.hid hy
    clear hy
    go_enter Try.func45, Try.ntmps45
    go_wp2_with (go_at_call 59; refine halt_ ?_)
    refine Halt_.go ?_
    refine HE.out.mono ?_
    rintro e w1 ⟨rfl, hb1⟩
    have HB1 := Lib.hid hb1
    have hsz := hb1.size
    unfold oddV
    clear hb1 HWV HE HK HBO HAC
    go_wp2
    go_quiet (fail)
    go_wp2
    go_ret2
    refine ⟨.inl ⟨HY.out, rfl⟩, ?_⟩
    have hB := HB1.out
    refine bdrewN ?_ _
    exact hB.alloc hsz _
set_option maxRecDepth 100000 in
set_option maxHeartbeats 3200000 in
theorem racRac_any (A : Option Addr) (cap : Nat) (l : List Ev) (w : World) (hl : l.length ≤ 1000) (hc : EvR w w.heap.size A l) :
    Calls Try.prog 46 #[.slice A l.length cap] w fun e w' => ((chk ss0 l 0).2 ≠ 0 ∧ e = .returned (.tuple #[.slice none 0 0, .int .i64 (chk ss0 l 0).2]) ∨
      chk ss0 l 0 = (-1, 0) ∧ ∃ Aa ca, e = .returned (.tuple #[.slice Aa (raL l (wBl l) (wLk l)).length ca, .int .i64 0]) ∧ OwnR2 w' w.heap.size Aa ca (raL l (wBl l) (wLk l))) ∧ Below w.heap.size w w' := by
  have HE := Lib.hid (evCheck_any A cap l w (by omega) hc)
  have HWV := Lib.hid (fun W (hk : chk ss0 l 0 = (-1, 0)) (h : EvR W W.heap.size A l) => weave_any A cap l W (by omega) hk h)
  have HBO := Lib.hid (fun (hk : chk ss0 l 0 = (-1, 0)) => HBk.of (l := l) (by omega) hk)
  have HAC := Lib.hid (fun (hi gW gF : Nat) (Ap : Option Addr) (cp : Nat) (Ab : Option Addr) (cb : Nat) (hd : Nat → Value) (sn : Nat → Nat → Nat) (tn : Nat → Nat) (W : World) (h : WebR W hi gW gF Ap cp Ab cb hd l (wBl l) (wLk l) sn tn) (hB : HBk l (wBl l) (wLk l)) (hhi : hi ≤ W.heap.size) (hc : EvR W W.heap.size A l) => racesW_any hi gW gF Ap cp Ab cb hd l (wBl l) (wLk l) sn tn A cap W h hB hhi hc (by omega))
  have HC := Lib.hid hc
  have HK := Lib.hid (chk_cases l 0 ss0)
  clear hc
  generalize chk ss0 l 0 = R at *
  obtain ⟨x, y⟩ := R
  have hq : y = 0 ∧ x = -1 ∨ y ≠ 0 := by
    rcases HK.out with h | h
    · injection h with h1 h2
      exact .inl ⟨h2, h1⟩
    · exact .inr h
  rcases hq with ⟨rfl, rfl⟩ | hy
  · have HB0 := Lib.hid (HBO.out rfl)
    go_enter Try.func46, Try.ntmps46
    go_wp2_with (go_at_call 59; refine halt_ ?_)
    refine Halt_.go ?_
    refine HE.out.mono ?_
    rintro e w1 ⟨rfl, hb1⟩
    have hsz := hb1.size
    unfold oddV
    have hb2 := hb1.alloc hsz (.cells #[.int .i64 (-1), .int .i64 0] 99)
    have hcut := HWV.out (w1.alloc (.cells #[.int .i64 (-1), .int .i64 0] 99)) trivial ((HC.out.below hb2).more (by simp; omega))
    obtain ⟨gW, hgW⟩ : ∃ g, g = (w1.alloc (.cells #[.int .i64 (-1), .int .i64 0] 99)).heap.size + 1 := ⟨_, rfl⟩
    rw [← hgW] at hcut
    clear hgW
    have HB2 := Lib.hid hb2
    have HCU := Lib.hid hcut
    clear hb1 hb2 hcut HWV HE HK HBO
    go_wp2_with (go_at_call 85; refine halt_ ?_)
    refine Halt_.go ?_
    refine HCU.out.mono ?_
    rintro e w2 ⟨rfl, h1, Ap, cp, Ab, cb, hd, sn, tn, h2⟩
    have hb3 := HB2.out.trans (h1.mono (by simp; omega))
    have HAC2 := Lib.hid (HAC.out _ _ _ _ _ _ _ _ _ _ w2 h2 HB0.out (Nat.le_refl _) ((HC.out.below hb3).more hb3.size))
    have HB3 := Lib.hid hb3
    clear h1 h2 hb3 HAC HB0
    go_wp2_with (go_at_call 87; refine halt_ ?_)
    refine Halt_.go ?_
    refine HAC2.out.mono ?_
    rintro e w3 ⟨Aa, ca, rfl, h1, h2⟩
    have HOA : Hid (OwnR2 w3 w.heap.size Aa ca (raL l (wBl l) (wLk l))) := own_base h1 HB3.out.size
    have HB4 := Lib.hid (HB3.out.trans (h2.mono HB3.out.size))
    clear h1 h2 HAC2
    go_wp2
    go_ret2
    exact ⟨.inr ⟨trivial, Aa, ca, rfl, HOA.out⟩, HB4.out⟩
  · have e1 : (y != 0) = true := by simpa using hy
    have HY := Lib.hid hy
    clear hy
    go_enter Try.func46, Try.ntmps46
    go_wp2_with (go_at_call 59; refine halt_ ?_)
    refine Halt_.go ?_
    refine HE.out.mono ?_
    rintro e w1 ⟨rfl, hb1⟩
    have HB1 := Lib.hid hb1
    have hsz := hb1.size
    unfold oddV
    clear hb1 HWV HE HK HBO HAC
    go_wp2
    go_quiet (fail)
    go_wp2
    go_ret2
    refine ⟨.inl ⟨HY.out, rfl⟩, ?_⟩
    have hB := HB1.out
    refine bdrewN ?_ _
    exact hB.alloc hsz _
set_option maxRecDepth 100000 in
set_option maxHeartbeats 3200000 in
theorem quiet_any (A : Option Addr) (cap : Nat) (l : List Ev) (w : World) (hl : l.length ≤ 1000) (hc : EvR w w.heap.size A l) :
    Calls Try.prog 47 #[.slice A l.length cap] w fun e w' => ∃ r, e = .returned (.bool r) ∧ ((chk ss0 l 0).2 ≠ 0 ∧ r = false ∨ chk ss0 l 0 = (-1, 0) ∧ r = decide ((raL l (wBl l) (wLk l)).length = 0)) ∧ Below w.heap.size w w' := by
  have HR := Lib.hid (racRac_any A cap l w hl hc)
  clear hc
  rcases chk_cases l 0 ss0 with hk | hk
  · have HK := Lib.hid hk
    have HB0 : Hid (Calls Try.prog 46 #[.slice A l.length cap] w fun e w' => (∃ Aa ca, e = .returned (.tuple #[.slice Aa (raL l (wBl l) (wLk l)).length ca, .int .i64 0])) ∧ Below w.heap.size w w') := by
      refine Calls.mono HR.out ?_
      rintro e w' ⟨h1 | h1, h2⟩
      · exact absurd (by rw [HK.out]) h1.1
      · obtain ⟨_, Aa, ca, h3, _⟩ := h1
        exact ⟨⟨Aa, ca, h3⟩, h2⟩
    clear hk HR
    generalize (raL l (wBl l) (wLk l)).length = n at *
    have hd : ((n : Int) == 0) = decide (n = 0) := by
      by_cases h : n = 0
      · subst h; rfl
      · rw [decide_eq_false h]; simpa using h
    have HD := Lib.hid hd
    clear hd
    go_enter Try.func47, Try.ntmps47
    go_wp2_with (go_at_call 46; refine halt_ ?_)
    refine Halt_.go ?_
    refine HB0.out.mono ?_
    rintro e w1 ⟨⟨Aa, ca, rfl⟩, hb1⟩
    have HB1 := Lib.hid hb1
    clear hb1 HB0
    go_wp2
    go_ret
    exact ⟨_, rfl, .inr ⟨HK.out, HD.out⟩, HB1.out⟩
  · have HK := Lib.hid hk
    have HB0 : Hid (Calls Try.prog 46 #[.slice A l.length cap] w fun e w' => e = .returned (.tuple #[.slice none 0 0, .int .i64 (chk ss0 l 0).2]) ∧ Below w.heap.size w w') := by
      refine Calls.mono HR.out ?_
      rintro e w' ⟨h1 | h1, h2⟩
      · exact ⟨h1.2, h2⟩
      · exact absurd (by rw [h1.1]) HK.out
    clear hk HR
    generalize chk ss0 l 0 = R at *
    obtain ⟨x, y⟩ := R
    have e1 : (y == 0) = false := by
      have := HK.out
      simpa using this
    simp only at HB0
    go_enter Try.func47, Try.ntmps47
    go_wp2_with (go_at_call 46; refine halt_ ?_)
    refine Halt_.go ?_
    refine HB0.out.mono ?_
    rintro e w1 ⟨rfl, hb1⟩
    have HB1 := Lib.hid hb1
    clear hb1 HB0
    go_wp2
    go_ret
    exact ⟨_, rfl, .inl ⟨HK.out, rfl⟩, HB1.out⟩
end Go.Proofs.Ytjifpjfinffamaa
end
section
namespace Go.Proofs.Ytjifpjfinffamaa
open Go.RowKit
def LentV (w : World) (base g : Nat) (cap : Nat) (l : List Ev) : Prop :=
  base ≤ g ∧ g < w.heap.size ∧ l.length + 1 ≤ cap ∧ (∀ e ∈ l, e.Wd) ∧ w.ownsRow base 97 6 (.slice (some ⟨g, 0, none⟩) (l.length + 1) cap) (l.length + 1) (l.flatMap ecell ++ markV)
theorem LentV.reads {w : World} {base g cap : Nat} {l : List Ev} (h : LentV w base g cap l) : EvR w w.heap.size (some ⟨g, 0, none⟩) l :=
  EvR.of_cells h.2.2.2.1 h.2.1 fun j u hu => by
    have := h.2.2.2.2.cells (g := g) rfl j u (by rw [List.getElem?_append_left (List.getElem?_eq_some_iff.1 hu).1]; exact hu)
    rwa [Addr.add_lit, Nat.zero_add] at this
theorem LentV.below {w w' : World} {base g cap : Nat} {l : List Ev} (h : LentV w base g cap l) {B : Nat} (hB : g < B) (hb : Below B w w') : LentV w' base g cap l := by
  obtain ⟨h1, h2, h3, hw, h4⟩ := h
  refine ⟨h1, Nat.lt_of_lt_of_le h2 hb.size, h3, hw, h4.1, ?_⟩
  rcases h4.2 with ⟨hn, _⟩ | ⟨g', cap', cur, hv, hbg, hg, rest⟩
  · cases hn
  · refine .inr ⟨g', cap', cur, hv, hbg, ?_, rest⟩
    have : g' = g := by injection hv with hv; injection hv with hv; injection hv with hv; exact hv.symm
    subst this
    rw [hb.block g' hB]; exact hg
end Go.Proofs.Ytjifpjfinffamaa
end
section
namespace Go.Proofs.Ytjifpjfinffamaa
open Go.RowKit
def RdA (w : World) (A : Option Addr) (xs : List Acc) : Prop := ∀ (k : Nat) (a : Acc), xs[k]? = some a → ∃ g, A = some ⟨g, 0, none⟩ ∧
  w.cell? ⟨g, k * 5, none⟩ = some (.int .i64 (a.ev : Int)) ∧ w.cell? ⟨g, k * 5 + 1, none⟩ = some (.int .i64 a.th) ∧ w.cell? ⟨g, k * 5 + 2, none⟩ = some (.int .u64 a.ad) ∧ w.cell? ⟨g, k * 5 + 3, none⟩ = some (.bool a.wr) ∧ w.cell? ⟨g, k * 5 + 4, none⟩ = some (.bool a.pl)
theorem OwnA.rd {w : World} {base c : Nat} {A : Option Addr} {xs : List Acc} (h : OwnA w base A c xs) : RdA w A xs := by
  intro k a hk
  have hl := (List.getElem?_eq_some_iff.1 hk).1
  obtain ⟨g, cap, hv, _, _⟩ := World.ownsRow.form h (by omega)
  have hA : A = some ⟨g, 0, none⟩ := by injection hv
  subst hA
  exact ⟨g, rfl, h.at_ hk⟩
def RdR (w : World) (A : Option Addr) (xs : List (Nat × Nat)) : Prop := ∀ (k : Nat) (a : Nat × Nat), xs[k]? = some a → ∃ g, A = some ⟨g, 0, none⟩ ∧
  w.cell? ⟨g, k * 2, none⟩ = some (.int .i64 (a.1 : Int)) ∧ w.cell? ⟨g, k * 2 + 1, none⟩ = some (.int .i64 (a.2 : Int))
theorem OwnR2.rd {w : World} {base c : Nat} {A : Option Addr} {xs : List (Nat × Nat)} (h : OwnR2 w base A c xs) : RdR w A xs := by
  intro k a hk
  have hl := (List.getElem?_eq_some_iff.1 hk).1
  obtain ⟨g, cap, hv, _, _⟩ := World.ownsRow.form h (by omega)
  have hA : A = some ⟨g, 0, none⟩ := by injection hv
  subst hA
  have hc : ∀ t, t < 2 → w.cell? ⟨g, k * 2 + t, none⟩ = (rcell a)[t]? := by
    intro t ht
    have hlen : k * 2 + t < (xs.flatMap rcell).length := by rw [rcell_len]; omega
    rw [World.ownsRow.cellAt h (k * 2 + t) (by omega), rcell_get xs k t ht, hk]
    rfl
  exact ⟨g, rfl, hc 0 (by omega), hc 1 (by omega)⟩
set_option maxRecDepth 100000 in
set_option maxHeartbeats 1600000 in
theorem sameA_any (A B : Option Addr) (c d : Nat) (l : List Acc) (w : World) (hx : RdA w A l) (hy : RdA w B l) (hl : l.length ≤ 1099511627776) :
    Calls Try.prog 52 #[.slice A l.length c, .slice B l.length d] w fun e w' => e = .returned (.bool true) ∧ ∃ m, w' = w.drewN m := by
  have hne : ((l.length : Int) != l.length) = false := by simp
  go_enter Try.func52, Try.ntmps52
  go_wp2
  go_loopw [5] (fun i wr => ∃ k : Nat, k ≤ l.length ∧ i = .int .i64 k ∧ ∃ m, wr = w.drewN m) (fun i _ => l.length - (intOf i).toNat)
  case atStart => exact ⟨0, Nat.zero_le _, rfl, 0, rfl⟩
  case round =>
    obtain ⟨k, hk, rfl, m, rfl⟩ := hrel
    by_cases hlt : k < l.length
    · obtain ⟨g, rfl, h0, h1, h2, h3, h4⟩ := hx k _ (List.getElem?_eq_getElem hlt)
      obtain ⟨g2, rfl, g0, g1, g2', g3, g4⟩ := hy k _ (List.getElem?_eq_getElem hlt)
      generalize l[k] = a at *
      obtain ⟨ev, th, ad, bw, bp⟩ := a
      simp only at h0 h1 h2 h3 h4 g0 g1 g2' g3 g4
      clear hx hy hne
      have i1 : (0 : Int) ≤ (k : Int) := by omega
      have i2 : (k : Int) < (l.length : Int) := by omega
      go_wp2
      go_quiet (fail)
      go_wp2
      go_roundw
      case rel => exact ⟨k + 1, by omega, by go_num, _, rfl⟩
      case measure => simp [intOf]; omega
    · go_wp2
      go_ret
      exact ⟨rfl, m, rfl⟩
set_option maxRecDepth 100000 in
set_option maxHeartbeats 1600000 in
theorem sameR_any (A B : Option Addr) (c d : Nat) (l : List (Nat × Nat)) (w : World) (hx : RdR w A l) (hy : RdR w B l) (hl : l.length ≤ 1099511627776) :
    Calls Try.prog 53 #[.slice A l.length c, .slice B l.length d] w fun e w' => e = .returned (.bool true) ∧ ∃ m, w' = w.drewN m := by
  have hne : ((l.length : Int) != l.length) = false := by simp
  go_enter Try.func53, Try.ntmps53
  go_wp2
  go_loopw [5] (fun i wr => ∃ k : Nat, k ≤ l.length ∧ i = .int .i64 k ∧ ∃ m, wr = w.drewN m) (fun i _ => l.length - (intOf i).toNat)
  case atStart => exact ⟨0, Nat.zero_le _, rfl, 0, rfl⟩
  case round =>
    obtain ⟨k, hk, rfl, m, rfl⟩ := hrel
    by_cases hlt : k < l.length
    · obtain ⟨g, rfl, h0, h1⟩ := hx k _ (List.getElem?_eq_getElem hlt)
      obtain ⟨g2, rfl, g0, g1⟩ := hy k _ (List.getElem?_eq_getElem hlt)
      generalize l[k] = a at *
      obtain ⟨x, y⟩ := a
      simp only at h0 h1 g0 g1
      clear hx hy hne
      have i1 : (0 : Int) ≤ (k : Int) := by omega
      have i2 : (k : Int) < (l.length : Int) := by omega
      go_wp2
      go_quiet (fail)
      go_wp2
      go_roundw
      case rel => exact ⟨k + 1, by omega, by go_num, _, rfl⟩
      case measure => simp [intOf]; omega
    · go_wp2
      go_ret
      exact ⟨rfl, m, rfl⟩
set_option maxHeartbeats 800000 in
theorem lent18_any (A : Option Addr) (c : Nat) (l : List Ev) (w : World) (hl : l.length ≤ 1099511627776) (hr : EvR w w.heap.size A l) :
    Calls Try.prog 44 #[.slice A l.length c] w fun e w' => ∃ g cap, e = .returned (.slice (some ⟨g, 0, none⟩) l.length cap) ∧ LentV w' w.heap.size g cap l ∧ Below w.heap.size w w' := by
  have hm1 : ∀ u ∈ markV, u.oneCell' = true := by simp [markV, Value.oneCell']
  go_enter Try.func44, Try.ntmps44
  go_wp2_with (at_builtin; refine halt_ ?_)
  refine Halt_.go ?_
  refine wl_append_src _ rfl (.const (.slice none 0 0)) (.tmp 3) 22 rfl w.heap.size 97 _ 6 48 info97 Try.underlying22 rfl (by decide) _ 0 [] rfl (World.ownsRow_nil w w.heap.size 97 6) A l.length c (l.flatMap ecell) rfl (ecell_len l) hr.none_ hr.cells (ecell_one l) (by omega) (by omega) (Nat.le_refl _) ?_
  intro A1 c1 w1 hown1 hgrow1 hnil1
  simp only [Nat.zero_add, List.nil_append] at hown1
  have hb1 : Below w.heap.size w w1 := (Below.refl _ _).grown hgrow1 (Nat.le_refl _) (fun k hk => by cases hk)
  go_wp2_with (at_builtin; refine halt_ ?_)
  refine Halt_.go ?_
  refine wl_append_src _ rfl (.tmp 4) (.tmp 6) 22 rfl w.heap.size 97 _ 6 48 info97 Try.underlying22 rfl (by decide) _ l.length (l.flatMap ecell) rfl (hown1.alloc _) _ 1 1 markV rfl rfl (fun h => by cases h) (cells_of_new (heap_alloc_new _ _)) hm1 (by omega) (by omega) (by have := hb1.size; simp; omega) ?_
  intro A2 c2 w2 hown2 hgrow2 hnil2
  obtain ⟨g, cap, hv, hbg, hlt⟩ := hown2.form (by omega)
  cases hv
  have hcap := (own_cap hown2).1
  have hle : l.length ≤ c2 := by omega
  have hb2 : Below w.heap.size w w2 := (hb1.alloc hb1.size _).grown hgrow2 (by have := hb1.size; simp; omega) (fun k hk => (hown1.lt k hk).1)
  have hwd := hr.1
  clear hown1 hgrow1 hnil1 hgrow2 hnil2 hb1 hr
  go_wp2
  go_ret
  exact ⟨g, c2, rfl, ⟨hbg, hlt, hcap, hwd, hown2⟩, hb2⟩
set_option maxHeartbeats 800000 in
theorem kept18_any (A : Option Addr) (g cap c : Nat) (base : Nat) (l : List Ev) (w : World) (hl : l.length ≤ 1099511627776) (h : LentV w base g cap l) (hr : EvR w w.heap.size A l) :
    Calls Try.prog 48 #[.slice (some ⟨g, 0, none⟩) l.length cap, .slice A l.length c] w fun e w' => e = .returned (.bool true) ∧ ∃ m, w' = w.drewN m := by
  have hcap := h.2.2.1
  have hcell : ∀ j u, (l.flatMap ecell ++ markV)[j]? = some u → w.cell? ⟨g, j, none⟩ = some u := by
    intro j u hu
    have := h.2.2.2.2.cells (g := g) rfl j u hu
    rwa [Addr.add_lit, Nat.zero_add] at this
  have h1 : w.cell? ⟨g, l.length * 6 + 1, none⟩ = some (.int .i64 99) := hcell _ _ (by rw [List.getElem?_append_right (by rw [ecell_len]; omega), ecell_len, show l.length * 6 + 1 - l.length * 6 = 1 from by omega]; rfl)
  have hrg := h.reads
  clear hcell h
  go_enter Try.func48, Try.ntmps48
  go_wp2_with (go_at_call 62; refine (sameEvents_any _ _ _ _ l _ hrg hr hl).mono ?_; rintro e w' ⟨rfl, m, rfl⟩)
  go_ret
  exact ⟨rfl, m, rfl⟩
end Go.Proofs.Ytjifpjfinffamaa
end
section
namespace Go.Proofs.Ytjifpjfinffamaa
open Go.RowKit
def l6 : List Ev := [⟨0, 1, 0, 0, false, 0⟩, ⟨0, 3, 1, 6, false, 0⟩, ⟨0, 5, 0, 0, false, 0⟩, ⟨0, 6, 0, 1, false, 0⟩, ⟨1, 10, 1, 6, false, 0⟩]
def l4 : List Ev := [⟨0, 1, 0, 0, false, 0⟩, ⟨0, 3, 1, 6, false, 0⟩, ⟨0, 5, 0, 0, false, 0⟩, ⟨0, 6, 0, 1, false, 0⟩]
theorem l6_chk : chk ss0 l6 0 = (-1, 0) := by decide
theorem l4_chk : chk ss0 l4 0 = (-1, 0) := by decide
theorem l6_ra : raL l6 (wBl l6) (wLk l6) = [(1, 4)] := by rfl
theorem l4_ra : raL l4 (wBl l4) (wLk l4) = [] := by rfl
def W6 (w : World) : World := w.alloc (.cells #[.int .i64 0, .int .i64 1, .int .u64 0, .int .u64 0, .bool false, .int .i64 0, .int .i64 0, .int .i64 3, .int .u64 1, .int .u64 6, .bool false, .int .i64 0, .int .i64 0, .int .i64 5, .int .u64 0, .int .u64 0, .bool false, .int .i64 0, .int .i64 0, .int .i64 6, .int .u64 0, .int .u64 1, .bool false, .int .i64 0, .int .i64 1, .int .i64 10, .int .u64 1, .int .u64 6, .bool false, .int .i64 0] 97)
theorem W6_heap (w : World) : (W6 w).heap[w.heap.size]? = some (.cells (l6.flatMap ecell).toArray 97 (0, 0)) := heap_at _ _ _ rfl
theorem W6_size (w : World) : (W6 w).heap.size = w.heap.size + 1 := by simp [W6]
theorem l6_reads (w W : World) (hb : Below (w.heap.size + 1) (W6 w) W) : EvR W W.heap.size (some ⟨w.heap.size, 0, none⟩) l6 := by
  have hs := hb.size
  rw [W6_size] at hs
  refine EvR.of_cells ?_ (by omega) fun j u hu => ?_
  · intro e he
    simp only [l6, List.mem_cons, List.not_mem_nil, or_false] at he
    rcases he with rfl | rfl | rfl | rfl | rfl <;> simp [Ev.Wd]
  rw [cell_of_row W w.heap.size j _ 97 (0, 0) ((hb.block _ (Nat.lt_succ_self _)).trans (W6_heap w))]
  simpa using hu
theorem l4_reads (w W : World) (hb : Below (w.heap.size + 1) (W6 w) W) : EvR W W.heap.size (some ⟨w.heap.size, 0, none⟩) l4 := by
  have hs := hb.size
  rw [W6_size] at hs
  refine EvR.of_cells ?_ (by omega) fun j u hu => ?_
  · intro e he
    simp only [l4, List.mem_cons, List.not_mem_nil, or_false] at he
    rcases he with rfl | rfl | rfl | rfl <;> simp [Ev.Wd]
  have hj := (List.getElem?_eq_some_iff.1 hu).1
  rw [cell_of_row W w.heap.size j _ 97 (0, 0) ((hb.block _ (Nat.lt_succ_self _)).trans (W6_heap w))]
  have h6 : l6.flatMap ecell = l4.flatMap ecell ++ ecell ⟨1, 10, 1, 6, false, 0⟩ := by rfl
  rw [h6]
  simp only [List.getElem?_toArray]
  rw [List.getElem?_append_left hj]
  exact hu
theorem known_races (w W : World) (hb : Below (w.heap.size + 1) (W6 w) W) : Calls Try.prog 46 #[.slice (some ⟨w.heap.size, 0, none⟩) 5 5] W fun e w' => (∃ Ar cr, e = .returned (.tuple #[.slice Ar 1 cr, .int .i64 0]) ∧ OwnR2 w' W.heap.size Ar cr [(1, 4)]) ∧ Below W.heap.size W w' := by
  have h1 := racRac_any (some ⟨w.heap.size, 0, none⟩) 5 l6 W (by decide) (l6_reads w W hb)
  refine Calls.mono h1 ?_
  rintro e w' ⟨⟨h, _⟩ | ⟨_, Ar, cr, rfl, ho⟩, hbel⟩
  · exact absurd (by rw [l6_chk]) h
  · rw [l6_ra] at ho ⊢
    exact ⟨⟨Ar, cr, rfl, ho⟩, hbel⟩
theorem known_loud (w W : World) (hb : Below (w.heap.size + 1) (W6 w) W) : Calls Try.prog 47 #[.slice (some ⟨w.heap.size, 0, none⟩) 5 5] W fun e w' => e = .returned (.bool false) ∧ Below W.heap.size W w' := by
  have h1 := quiet_any (some ⟨w.heap.size, 0, none⟩) 5 l6 W (by decide) (l6_reads w W hb)
  refine Calls.mono h1 ?_
  rintro e w' ⟨r, rfl, ⟨h, _⟩ | ⟨_, hr⟩, hbel⟩
  · exact absurd (by rw [l6_chk]) h
  · rw [l6_ra] at hr
    subst hr
    exact ⟨rfl, hbel⟩
theorem known_quiet (w W : World) (c : Nat) (hb : Below (w.heap.size + 1) (W6 w) W) : Calls Try.prog 47 #[.slice (some ⟨w.heap.size, 0, none⟩) 4 c] W fun e w' => e = .returned (.bool true) ∧ Below W.heap.size W w' := by
  have h1 := quiet_any (some ⟨w.heap.size, 0, none⟩) c l4 W (by decide) (l4_reads w W hb)
  refine Calls.mono h1 ?_
  rintro e w' ⟨r, rfl, ⟨h, _⟩ | ⟨_, hr⟩, hbel⟩
  · exact absurd (by rw [l4_chk]) h
  · rw [l4_ra] at hr
    subst hr
    exact ⟨rfl, hbel⟩
set_option linter.unusedSimpArgs false in
set_option maxRecDepth 100000 in
set_option maxHeartbeats 3200000 in
theorem known18_any (w : World) : Calls Try.prog 43 #[] w fun e w' => e = .returned (.bool true) ∧ Below w.heap.size w w' := by
  have hal : Below w.heap.size w (W6 w) := (Below.refl _ _).alloc (Nat.le_refl _) _
  have H1 := Lib.hid (known_races w (W6 w) (Below.refl _ _))
  have H2 := Lib.hid (known_loud w)
  have H3 := Lib.hid (known_quiet w)
  have HAL := Lib.hid hal
  have HSZ := Lib.hid (W6_size w)
  clear hal
  go_enter Try.func43, Try.ntmps43
  go_wp2_with (go_at_call 46; refine halt_ ?_)
  refine Halt_.go ?_
  refine H1.out.mono ?_
  rintro e w1 ⟨⟨Ar, cr, rfl, ho⟩, hbel⟩
  obtain ⟨gr, hA, r0, r1⟩ := ho.rd 0 (1, 4) rfl
  subst hA
  have hbel1 : Below (w.heap.size + 1) (W6 w) w1 := hbel.mono (by rw [HSZ.out]; omega)
  have HBE := Lib.hid hbel1
  have HQ1 := Lib.hid (H2.out w1 hbel1)
  clear ho hbel hbel1 H1 H2
  simp only [Nat.zero_mul, Nat.zero_add] at r0 r1
  go_wp2_with (go_at_call 47; refine halt_ ?_)
  refine Halt_.go ?_
  refine HQ1.out.mono ?_
  rintro e w2 ⟨rfl, hb2⟩
  have hb3 := HBE.out.trans (hb2.mono (by have := HBE.out.size; have := HSZ.out; omega))
  have HB3 := Lib.hid hb3
  have HQ2 := Lib.hid (fun c => H3.out w2 c hb3)
  clear hb2 hb3 HQ1 H3 r0 r1
  go_wp2_with (go_at_call 47; refine halt_ ?_)
  refine Halt_.go ?_
  refine (HQ2.out _).mono ?_
  rintro e w3 ⟨rfl, hb4⟩
  have HF := Lib.hid (HAL.out.trans ((HB3.out.trans (hb4.mono (by have := HB3.out.size; have := HSZ.out; omega))).mono (Nat.le_succ _)))
  clear hb4 HQ2
  go_wp2
  go_ret
  exact ⟨rfl, HF.out⟩
end Go.Proofs.Ytjifpjfinffamaa
end
