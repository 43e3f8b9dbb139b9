/- Walks: lend and kept of the law (edges with marks behind), LendInts and KeptInts (numbers with marks behind). -/
import Derived.Test.YtjifpjfinffamaaLib2
import Derived.Test.YtjifpjfinffamaaW1
namespace Go.Proofs.Ytjifpjfinffamaa
open Go.RowKit

def marksE : List E := [⟨-7, 0, 0⟩, ⟨-8, 0, 0⟩]
/-- edges that were lent: at the head of block g, marks behind them -/
def LentE (w : World) (base g : Nat) (cap : Nat) (l : List E) : Prop :=
  base ≤ g ∧ g < w.heap.size ∧ l.length + 2 ≤ cap ∧ w.ownsRow base 69 3 (.slice (some ⟨g, 0, none⟩) (l.length + 2) cap) (l.length + 2) (l.flatMap ecells ++ marksE.flatMap ecells)
theorem LentE.reads {w : World} {base g cap : Nat} {l : List E} (h : LentE w base g cap l) : RE w w.heap.size (some ⟨g, 0, none⟩) l := RE.of_own h.2.2.2
theorem LentE.below {w w' : World} {base g cap : Nat} {l : List E} (h : LentE w base g cap l) {B : Nat} (hB : g < B) (hb : Below B w w') : LentE w' base g cap l := by
  obtain ⟨h1, h2, h3, h4⟩ := h
  refine ⟨h1, Nat.lt_of_lt_of_le h2 hb.size, h3, h4.1, ?_⟩
  rcases h4.2 with ⟨hn, _⟩ | ⟨g', cap', cur, hv, hbg, hg, rest⟩
  · cases hn
  · refine .inr ⟨g', cap', cur, hv, hbg, ?_, rest⟩
    have : g' = g := by injection hv with hv; injection hv with hv; injection hv with hv; exact hv.symm
    subst this
    rw [hb.block g' hB]; exact hg

set_option maxHeartbeats 400000 in
theorem lend_any (A : Option Addr) (c : Nat) (l : List E) (w : World) (hl : l.length * 24 ≤ 140737488351232) (hr : RE w w.heap.size A l) :
    Calls Try.prog 23 #[.slice A l.length c] w fun e w' => ∃ g cap, e = .returned (.slice (some ⟨g, 0, none⟩) l.length cap) ∧ LentE w' w.heap.size g cap l ∧ Below w.heap.size w w' := by
  have hr1 : ∀ o, RE (w.alloc o) w.heap.size A l := fun o => hr.keep fun p hp => World.cell?_alloc_lt w o p hp
  have hm1 : ∀ u ∈ marksE.flatMap ecells, u.oneCell' = true := ecells_one _
  go_enter Try.func23, Try.ntmps23
  go_wp2_with (at_builtin; refine halt_ ?_)
  refine Halt_.go ?_
  refine wl_append_src _ rfl (.tmp 4) (.tmp 5) 48 rfl w.heap.size 69 _ 3 24 info69 Try.underlying48 rfl (by decide) _ 0 [] rfl (World.ownsRow_lit w #[] 0 (Nat.le_refl _) (Nat.zero_le _) rfl) A l.length c (l.flatMap ecells) rfl (ecells_len l) hr.none_ (hr1 _).cells (ecells_one l) (by omega) (by omega) (by simp) ?_
  intro A1 c1 w1 hown1 hgrow1 hnil1
  simp only [Nat.zero_add, List.nil_append] at hown1
  go_wp2_with (at_builtin; refine halt_ ?_)
  refine Halt_.go ?_
  refine wl_append_src _ rfl (.tmp 6) (.tmp 9) 48 rfl w.heap.size 69 _ 3 24 info69 Try.underlying48 rfl (by decide) _ l.length (l.flatMap ecells) rfl (hown1.alloc _) _ 2 2 (marksE.flatMap ecells) rfl rfl (fun h => by cases h) (cells_of_new (heap_alloc_new _ _)) hm1 (by omega) (by omega) (by have := hgrow1.size; simp at this ⊢; omega) ?_
  intro A2 c2 w2 hown2 hgrow2 hnil2
  obtain ⟨g, cap, hv, hbg, hlt⟩ := hown2.form (by omega)
  cases hv
  have hcap := (own_cap hown2).1
  have hle : l.length ≤ c2 := by omega
  have hb1 : Below w.heap.size w w1 := ((Below.refl _ _).alloc (Nat.le_refl _) _).grown hgrow1 (by simp) (fun k hk => Nat.le_of_eq (Option.some.inj hk))
  have hb2 : Below w.heap.size w w2 := (hb1.alloc hb1.size _).grown hgrow2 (by have := hb1.size; simp; omega) (fun k hk => (hown1.lt k hk).1)
  go_wp2
  go_ret
  exact ⟨g, c2, rfl, ⟨hbg, hlt, hcap, hown2⟩, hb2⟩

set_option maxHeartbeats 400000 in
/-- what was lent is as it was -/
theorem kept_any (A : Option Addr) (g cap c : Nat) (base : Nat) (l : List E) (w : World) (hl : l.length * 24 ≤ 140737488351232) (h : LentE w base g cap l) (hr : RE w w.heap.size A l) :
    Calls Try.prog 28 #[.slice (some ⟨g, 0, none⟩) l.length cap, .slice A l.length c] w fun e w' => e = .returned (.bool true) ∧ ∃ m, w' = w.drewN m := by
  have hcap := h.2.2.1
  have hown := h.2.2.2
  have hcell : ∀ j u, (l.flatMap ecells ++ marksE.flatMap ecells)[j]? = some u → w.cell? ⟨g, j, none⟩ = some u := by
    intro j u hu
    have := hown.cells (g := g) rfl j u hu
    rwa [Addr.add_lit, Nat.zero_add] at this
  have h1 : w.cell? ⟨g, l.length * 3, none⟩ = some (.int .i64 (-7)) := hcell _ _ (by rw [List.getElem?_append_right (by rw [ecells_len]; omega), ecells_len]; simp; rfl)
  have h2 : w.cell? ⟨g, (l.length + 1) * 3, none⟩ = some (.int .i64 (-8)) := hcell _ _ (by rw [List.getElem?_append_right (by rw [ecells_len]; omega), ecells_len, show (l.length + 1) * 3 - l.length * 3 = 3 from by omega]; rfl)
  have hrg := h.reads
  clear hcell hown h
  go_enter Try.func28, Try.ntmps28
  go_wp2_with (go_at_call 72; refine (edges_same _ _ _ _ l _ hrg hr (by omega)).mono ?_; rintro e w' ⟨rfl, m, rfl⟩)
  go_ret
  exact ⟨rfl, m, rfl⟩

/-! ### numbers -/
def marksI : List Int := [-7000, -7001, -7002]
def LentI (w : World) (base g : Nat) (cap : Nat) (xs : List Int) : Prop :=
  base ≤ g ∧ g < w.heap.size ∧ xs.length + 3 ≤ cap ∧ w.ownsRow base 3 1 (.slice (some ⟨g, 0, none⟩) (xs.length + 3) cap) (xs.length + 3) ((xs ++ marksI).map (Value.int .i64))
theorem LentI.reads {w : World} {base g cap : Nat} {xs : List Int} (h : LentI w base g cap xs) : RK .i64 w w.heap.size (some ⟨g, 0, none⟩) xs := by
  intro hn
  refine ⟨g, 0, rfl, h.2.1, fun i hi => ?_⟩
  have := h.2.2.2.cells (g := g) rfl i (.int .i64 xs[i]) (by rw [List.map_append, List.getElem?_append_left (by simpa using hi)]; simp [hi])
  rwa [Addr.add_lit] at this
theorem LentI.below {w w' : World} {base g cap : Nat} {xs : List Int} (h : LentI w base g cap xs) {B : Nat} (hB : g < B) (hb : Below B w w') : LentI w' base g cap xs := by
  obtain ⟨h1, h2, h3, h4⟩ := h
  refine ⟨h1, Nat.lt_of_lt_of_le h2 hb.size, h3, h4.1, ?_⟩
  rcases h4.2 with ⟨hn, _⟩ | ⟨g', cap', cur, hv, hbg, hg, rest⟩
  · cases hn
  · refine .inr ⟨g', cap', cur, hv, hbg, ?_, rest⟩
    have : g' = g := by injection hv with hv; injection hv with hv; injection hv with hv; exact hv.symm
    subst this
    rw [hb.block g' hB]; exact hg

theorem map_snoc (xs : List Int) (y : Int) : xs.map (Value.int .i64) ++ [.int .i64 y] = (xs ++ [y]).map (Value.int .i64) := by simp
theorem marks_take (k : Nat) (h : k < 3) : marksI.take (k + 1) = marksI.take k ++ [-7000 - (k : Int)] := by
  have : k = 0 ∨ k = 1 ∨ k = 2 := by omega
  rcases this with rfl | rfl | rfl <;> rfl

set_option maxHeartbeats 400000 in
theorem lendInts_any (A : Option Addr) (c : Nat) (xs : List Int) (w : World) (hl : xs.length * 8 ≤ 140737488351232) (hr : RK .i64 w w.heap.size A xs) :
    Calls Try.prog 31 #[.slice A xs.length c] w fun e w' => ∃ g cap, e = .returned (.slice (some ⟨g, 0, none⟩) xs.length cap) ∧ LentI w' w.heap.size g cap xs ∧ Below w.heap.size w w' := by
  have hr1 : ∀ o, RK .i64 (w.alloc o) w.heap.size A xs := fun o => hr.keep fun p hp => World.cell?_alloc_lt w o p hp
  go_enter Try.func31, Try.ntmps31
  go_wp2_with (at_builtin; refine halt_ ?_)
  refine Halt_.go ?_
  refine wl_append_src _ rfl (.tmp 5) (.tmp 6) 31 rfl w.heap.size 3 _ 1 8 info3 Try.underlying31 rfl (by decide) _ 0 [] rfl (World.ownsRow_lit w #[] 0 (Nat.le_refl _) (Nat.zero_le _) rfl) A xs.length c (xs.map (Value.int .i64)) rfl (by simp) hr.none_ (hr1 _).cells (ints_oneCell _ _) (by omega) (by omega) (by simp) ?_
  intro A1 c1 w1 hown1 hgrow1 hnil1
  simp only [Nat.zero_add, List.nil_append] at hown1
  have hA1 : ∃ g1, A1 = some ⟨g1, 0, none⟩ ∧ w.heap.size ≤ g1 := by
    rcases hown1.2 with ⟨hn, _⟩ | ⟨g', cap', cur, hv, hbg, _⟩
    · injection hn with hn _ _
      exact absurd (hnil1 hn) (fun h => by cases h)
    · injection hv with hv _ _
      exact ⟨g', hv, hbg⟩
  obtain ⟨g1, rfl, hbg1⟩ := hA1
  have hb1 : Below w.heap.size w w1 := ((Below.refl _ _).alloc (Nat.le_refl _) _).grown hgrow1 (by simp) (fun k hk => Nat.le_of_eq (Option.some.inj hk))
  clear hr hr1 hgrow1 hnil1
  go_wp2
  go_loopw [3, 4] (fun v i wr => ∃ (k g cap : Nat), k ≤ 3 ∧ i = .int .i64 k ∧ v = .slice (some ⟨g, 0, none⟩) (xs.length + k) cap ∧ w.heap.size ≤ g ∧ wr.ownsRow w.heap.size 3 1 (.slice (some ⟨g, 0, none⟩) (xs.length + k) cap) (xs.length + k) ((xs ++ marksI.take k).map (Value.int .i64)) ∧ Below w.heap.size w wr) (fun _ i _ => 3 - (intOf i).toNat)
  case atStart => exact ⟨0, g1, c1, by omega, rfl, rfl, hbg1, by simpa using hown1, hb1⟩
  case round =>
    obtain ⟨k, g, cap, hk, rfl, rfl, hbg, hown, hbel⟩ := hrel
    by_cases hlt : k < 3
    · go_wp2_with (at_builtin; refine halt_ ?_)
      refine Halt_.go ?_
      refine wl_append1 _ rfl (.tmp 12) (.tmp 15) 31 rfl w.heap.size 3 _ 1 8 info3 Try.underlying31 rfl (by decide) _ (xs.length + k) _ rfl (hown.alloc _) _ 1 [.int .i64 (-7000 - (k : Int))] rfl (heap_alloc_new _ _) rfl (by simp [Value.oneCell']) (by omega) (by omega) (by have := hbel.size; simp; omega) _ rfl ?_
      intro g2 cap2 w2 hown2 hgrow2 hat2 hlt2
      rw [map_snoc, List.append_assoc, ← marks_take k hlt] at hown2
      have hb2 : Below w.heap.size w w2 := (hbel.alloc hbel.size _).grown hgrow2 (by have := hbel.size; simp; omega) (fun k hk => by have : g = k := Option.some.inj hk; omega)
      have hbg2 : w.heap.size ≤ g2 := by
        rcases hat2 with h | h
        · have : g = g2 := Option.some.inj h; omega
        · have := hbel.size; simp at h; omega
      clear hown hgrow2 hat2
      go_wp2
      go_roundw
      case rel => exact ⟨k + 1, g2, cap2, by omega, by go_num, by rw [Nat.add_assoc], hbg2, by rw [← Nat.add_assoc]; exact hown2, hb2⟩
      case measure => simp [intOf]; omega
    · have hk3 : k = 3 := by omega
      subst hk3
      have hcap := (own_cap hown).1
      have hlt2 := (hown.lt g rfl).2
      have hle : xs.length ≤ cap := by omega
      go_wp2
      go_ret
      exact ⟨g, cap, rfl, ⟨hbg, hlt2, hcap, hown⟩, hbel⟩

set_option maxHeartbeats 400000 in
theorem keptInts_any (A : Option Addr) (g cap c : Nat) (base : Nat) (xs : List Int) (w : World) (hl : xs.length * 8 ≤ 140737488351232) (h : LentI w base g cap xs) (hr : RK .i64 w w.heap.size A xs) :
    Calls Try.prog 34 #[.slice (some ⟨g, 0, none⟩) xs.length cap, .slice A xs.length c] w fun e w' => e = .returned (.bool true) ∧ ∃ m, w' = w.drewN m := by
  have hcap := h.2.2.1
  have hown := h.2.2.2
  have hcell : ∀ k : Nat, k < 3 → w.cell? ⟨g, xs.length + k, none⟩ = some (.int .i64 (-7000 - (k : Int))) := by
    intro k hk
    have h1 : ((xs ++ marksI).map (Value.int .i64))[xs.length + k]? = some (.int .i64 (-7000 - (k : Int))) := by
      rw [List.map_append, List.getElem?_append_right (by simp), List.length_map, Nat.add_sub_cancel_left]
      have : k = 0 ∨ k = 1 ∨ k = 2 := by omega
      rcases this with rfl | rfl | rfl <;> rfl
    have := hown.cells (g := g) rfl _ _ h1
    rwa [Addr.add_lit, Nat.zero_add] at this
  have hrg := h.reads
  have hself : intsB xs xs = true := by simp [intsB]
  clear hown h
  go_enter Try.func34, Try.ntmps34
  go_wp2_with (go_at_call 26; refine (ints_any _ _ _ _ xs xs _ hrg hr (by omega)).mono ?_; rintro e w' ⟨rfl, m, rfl⟩)
  go_loopw [6] (fun i wr => ∃ k : Nat, k ≤ 3 ∧ i = .int .i64 k ∧ ∃ m, wr = w.drewN m) (fun i _ => 3 - (intOf i).toNat)
  case atStart => exact ⟨0, Nat.zero_le _, rfl, m, rfl⟩
  case round =>
    obtain ⟨k, hk, rfl, m, rfl⟩ := hrel
    by_cases hlt : k < 3
    · have h1 := hcell k hlt
      clear hcell
      go_wp2
      go_roundw
      case rel => exact ⟨k + 1, by omega, by go_num, m, rfl⟩
      case measure => simp [intOf]; omega
    · go_wp2
      go_ret
      exact ⟨rfl, m, rfl⟩
end Go.Proofs.Ytjifpjfinffamaa
