/- Walks: Push and Pop of graph.ready. -/
import Derived.Test.YtjifpjfinffamaaH1
namespace Go.Proofs.Ytjifpjfinffamaa
open Go.RowKit

theorem HS.pop {w : World} {p L c : Nat} {A : Option Addr} {xs : List Int} (h : HS w p (.slice A (L + 1) c) xs) :
    HS (w.setCell ⟨p, 0, none⟩ (.slice A L c)) p (.slice A L c) (xs.take L) ∧ Moves w (w.setCell ⟨p, 0, none⟩ (.slice A L c)) p (.slice A (L + 1) c) (.slice A L c) := by
  have hl := h.len
  have hp := (Array.getElem?_eq_some_iff.1 h.1).1
  obtain ⟨g, rfl, hpg, _, _⟩ := h.open2 (by omega)
  refine ⟨⟨?_, ?_⟩, ⟨rfl, rfl, rfl, by simp, fun k hk hkp hkv => ?_, .inl rfl⟩⟩
  · have := heap_setCell_same w p 0 _ 124 (.slice (some ⟨g, 0, none⟩) L c) h.1
    exact this
  · have h2 := h.2
    rw [hl] at h2
    have hle : (xs.take L).length = L := by simp [hl]
    rw [hle]
    refine ⟨by simp [ints, hl], ?_⟩
    rcases h2.2 with ⟨hc, _⟩ | ⟨g', cap, cur, hv, hb, hh, hnc, hm, hcs, ht⟩
    · cases hc
    · injection hv with hv1 _ hv3
      injection hv1 with hv1
      injection hv1 with hv1
      subst hv1 hv3
      refine .inr ⟨g, c, cur, rfl, hb, ?_, by omega, hm, hcs, ?_⟩
      · rw [heap_setCell_other w ⟨p, 0, none⟩ g _ (by simp; omega)]
        exact hh
      · have e : ints (xs.take L) = (ints xs).take L := by simp [ints, List.map_take]
        rw [e, ← ht, List.take_take]
        congr 1
        omega
  · exact heap_setCell_other w ⟨p, 0, none⟩ k _ (by simpa using hkp)

theorem HS.pushed {w w2 : World} {p L c g cap2 : Nat} {A : Option Addr} {xs : List Int} {x : Int} (h : HS w p (.slice A L c) xs)
    (hg : w.grownBy w2 (Value.slice A L c).ownBlock) (hown2 : w2.ownsRow (p + 1) 3 1 (.slice (some ⟨g, 0, none⟩) (L + 1) cap2) (L + 1) (ints xs ++ [Value.int .i64 x]))
    (hrow : (Value.slice A L c).ownBlock = some g ∨ w.heap.size ≤ g) :
    HS (w2.setCell ⟨p, 0, none⟩ (.slice (some ⟨g, 0, none⟩) (L + 1) cap2)) p (.slice (some ⟨g, 0, none⟩) (L + 1) cap2) (xs ++ [x]) ∧ Moves w (w2.setCell ⟨p, 0, none⟩ (.slice (some ⟨g, 0, none⟩) (L + 1) cap2)) p (.slice A L c) (.slice (some ⟨g, 0, none⟩) (L + 1) cap2) := by
  have hl := h.len
  have hp := (Array.getElem?_eq_some_iff.1 h.1).1
  have hne0 : some p ≠ (Value.slice A L c).ownBlock := fun hc => by have := (h.2.lt p hc.symm).1; omega
  have hpg : p < g := by have := (hown2.lt g rfl).1; omega
  have h2 := (hg.block p hp hne0).trans h.1
  refine ⟨⟨?_, ?_⟩, ⟨hg.os, hg.tape, hg.output, by simpa using hg.size, fun k hk hkp hkv => ?_, ?_⟩⟩
  · exact heap_setCell_same w2 p 0 _ 124 _ h2
  · have e : ints (xs ++ [x]) = ints xs ++ [Value.int .i64 x] := by simp [ints]
    rw [e, show (xs ++ [x]).length = L + 1 from by simp [hl]]
    refine ⟨hown2.1, ?_⟩
    rcases hown2.2 with ⟨hc, _⟩ | ⟨g', cap, cur, hv, hb, hh, hr⟩
    · cases hc
    · refine .inr ⟨g', cap, cur, hv, hb, ?_, hr⟩
      rw [heap_setCell_other w2 ⟨p, 0, none⟩ g' _ (by simp; omega)]
      exact hh
  · exact (heap_setCell_other w2 ⟨p, 0, none⟩ k _ (by simpa using hkp)).trans (hg.block k hk (fun hc => hkv hc.symm))
  · rcases hrow with h3 | h3
    · exact .inl h3.symm
    · right
      intro k hk
      obtain rfl : g = k := by simpa [Value.ownBlock] using hk
      exact h3
theorem assert3 (v : Value) (w : World) : (Instr.typeAssert (.iface 3 v) 20 3 false).run Try.prog w = .ok v w := by kernel_rfl
set_option linter.unusedSimpArgs false in
set_option maxRecDepth 100000 in
set_option maxHeartbeats 1600000 in
theorem rpop_any (p : Nat) (A : Option Addr) (L c : Nat) (xs : List Int) (w : World) (hs : HS w p (.slice A (L + 1) c) xs) (hlen : L ≤ 4294967296) :
    Calls Try.prog 187 #[.pointer (some ⟨p, 0, none⟩)] w fun e w' => e = .returned (.iface 3 (.int .i64 (nth xs L))) ∧ HS w' p (.slice A L c) (xs.take L) ∧ Moves w w' p (.slice A (L + 1) c) (.slice A L c) := by
  have hl := hs.len
  obtain ⟨g, rfl, hpg, hcs, hfs⟩ := hs.open2 (by omega)
  have hcell := hs.cell
  have hfr : w.frozen? ⟨p, 0, none⟩ = false := frozen_of_row w p 0 _ 124 hs.1
  have x0 := hcs L (by omega)
  have hcap : L + 1 ≤ c := (own_cap (hl ▸ hs.2)).1
  have HSS := Lib.hid hs
  clear hs hcs hfs hl
  go_enter Try.func187, Try.ntmps187
  go_wp2
  go_region
  all_goals
    go_wp2
    go_region
    all_goals
      go_wp2
      go_ret
      have hq := HSS.out.pop
      exact ⟨rfl, hq.1.drew.drew, (hq.2.trans (Moves.drew _ _ _)).trans (Moves.drew _ _ _)⟩

set_option linter.unusedSimpArgs false in
set_option maxRecDepth 100000 in
set_option maxHeartbeats 1600000 in
theorem rpush_any (p : Nat) (A : Option Addr) (L c : Nat) (xs : List Int) (x : Int) (w : World) (hs : HS w p (.slice A L c) xs) (hlen : L ≤ 4294967296) :
    Calls Try.prog 188 #[.pointer (some ⟨p, 0, none⟩), .iface 3 (.int .i64 x)] w fun e w' => ∃ A' c', e = .returned (.tuple #[]) ∧ HS w' p (.slice A' (L + 1) c') (xs ++ [x]) ∧ Moves w w' p (.slice A L c) (.slice A' (L + 1) c') := by
  have hl := hs.len
  have hcell := hs.cell
  have hfr : w.frozen? ⟨p, 0, none⟩ = false := frozen_of_row w p 0 _ 124 hs.1
  have hpw := (Array.getElem?_eq_some_iff.1 hs.1).1
  have hown := hs.2
  rw [hl] at hown
  have hne0 : some p ≠ (Value.slice A L c).ownBlock := fun hc => by have := (hown.lt p hc.symm).1; omega
  have HSS := Lib.hid hs
  clear hs
  have has := fun (v : Value) (w : World) => assert3 v w
  go_enter Try.func188, Try.ntmps188
  go_wp2
  go_region_law
    ((refine step_append_two _ (by rfl) (.tmp 7) (.tmp 10) 124 (by rfl) (p + 1) 3 _ 1 8 info3 Try.underlying124 rfl (by decide) (.slice A L c) L (ints xs) (by rfl) ((hown.drew).alloc _) (w.heap.size) 1 [.int .i64 x] (by rfl) (heap_at _ _ _ (by simp)) rfl (by simp [Value.oneCell']) (by omega) (by omega) (by simp; omega) ?_; intro g cap2 w2 hown2 hlt2 htwo; have hq2 : w2.cell? ⟨p, 0, none⟩ = some (.slice A L c) := (two_grown htwo).cell (by simp [World.cell?_alloc_some, hcell]) hne0; have hq3 : w2.frozen? ⟨p, 0, none⟩ = false := grown_frozen (two_grown htwo) (by simp; omega) hne0 (by simp [frozen?_alloc_cells, hfr])))
  all_goals
    go_wp2
    go_end0
    have hgr := grown_trans (grown_trans (World.grownBy_alloc w (.cells #[.int .i64 x] 3) _) (grown_drew _ _)) (two_grown htwo)
    refine ⟨_, _, rfl, HSS.out.pushed hgr hown2 ?_⟩
    rcases htwo with ⟨h1, _⟩ | ⟨h1, _⟩
    · exact .inl h1
    · right; simp at h1; omega
end Go.Proofs.Ytjifpjfinffamaa
