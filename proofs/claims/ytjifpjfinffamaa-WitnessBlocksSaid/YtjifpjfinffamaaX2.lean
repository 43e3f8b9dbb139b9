/- Walks: lent and kept of layer 15's law, a history with a mark behind it. -/
import Derived.Test.YtjifpjfinffamaaX1
namespace Go.Proofs.Ytjifpjfinffamaa
open Go.RowKit

def LentV (w : World) (base g : Nat) (cap : Nat) (l : List Ev) : Prop :=
  base ≤ g ∧ g < w.heap.size ∧ l.length + 1 ≤ cap ∧ (∀ e ∈ l, e.Wd) ∧ w.ownsRow base 97 6 (.slice (some ⟨g, 0, none⟩) (l.length + 1) cap) (l.length + 1) (l.flatMap ecell ++ markV)
theorem LentV.reads {w : World} {base g cap : Nat} {l : List Ev} (h : LentV w base g cap l) : EvR w w.heap.size (some ⟨g, 0, none⟩) l :=
  EvR.of_cells h.2.2.2.1 h.2.1 fun j u hu => by
    have := h.2.2.2.2.cells (g := g) rfl j u (by rw [List.getElem?_append_left (List.getElem?_eq_some_iff.1 hu).1]; exact hu)
    rwa [Addr.add_lit, Nat.zero_add] at this
theorem LentV.below {w w' : World} {base g cap : Nat} {l : List Ev} (h : LentV w base g cap l) {B : Nat} (hB : g < B) (hb : Below B w w') : LentV w' base g cap l := by
  obtain ⟨h1, h2, h3, hw, h4⟩ := h
  refine ⟨h1, Nat.lt_of_lt_of_le h2 hb.size, h3, hw, h4.1, ?_⟩
  rcases h4.2 with ⟨hn, _⟩ | ⟨g', cap', cur, hv, hbg, hg, rest⟩
  · cases hn
  · refine .inr ⟨g', cap', cur, hv, hbg, ?_, rest⟩
    have : g' = g := by injection hv with hv; injection hv with hv; injection hv with hv; exact hv.symm
    subst this
    rw [hb.block g' hB]; exact hg

set_option maxHeartbeats 800000 in
theorem lent_any (A : Option Addr) (c : Nat) (l : List Ev) (w : World) (hl : l.length ≤ 1099511627776) (hr : EvR w w.heap.size A l) :
    Calls Try.prog 13 #[.slice A l.length c] w fun e w' => ∃ g cap, e = .returned (.slice (some ⟨g, 0, none⟩) l.length cap) ∧ LentV w' w.heap.size g cap l ∧ Below w.heap.size w w' := by
  have hm1 : ∀ u ∈ markV, u.oneCell' = true := by simp [markV, Value.oneCell']
  go_enter Try.func13, Try.ntmps13
  go_wp2_with (at_builtin; refine halt_ ?_)
  refine Halt_.go ?_
  refine wl_append_src _ rfl (.const (.slice none 0 0)) (.tmp 3) 22 rfl w.heap.size 97 _ 6 48 info97 Try.underlying22 rfl (by decide) _ 0 [] rfl (World.ownsRow_nil w w.heap.size 97 6) A l.length c (l.flatMap ecell) rfl (ecell_len l) hr.none_ hr.cells (ecell_one l) (by omega) (by omega) (Nat.le_refl _) ?_
  intro A1 c1 w1 hown1 hgrow1 hnil1
  simp only [Nat.zero_add, List.nil_append] at hown1
  have hb1 : Below w.heap.size w w1 := (Below.refl _ _).grown hgrow1 (Nat.le_refl _) (fun k hk => by cases hk)
  go_wp2_with (at_builtin; refine halt_ ?_)
  refine Halt_.go ?_
  refine wl_append_src _ rfl (.tmp 4) (.tmp 6) 22 rfl w.heap.size 97 _ 6 48 info97 Try.underlying22 rfl (by decide) _ l.length (l.flatMap ecell) rfl (hown1.alloc _) _ 1 1 markV rfl rfl (fun h => by cases h) (cells_of_new (heap_alloc_new _ _)) hm1 (by omega) (by omega) (by have := hb1.size; simp; omega) ?_
  intro A2 c2 w2 hown2 hgrow2 hnil2
  obtain ⟨g, cap, hv, hbg, hlt⟩ := hown2.form (by omega)
  cases hv
  have hcap := (own_cap hown2).1
  have hle : l.length ≤ c2 := by omega
  have hb2 : Below w.heap.size w w2 := (hb1.alloc hb1.size _).grown hgrow2 (by have := hb1.size; simp; omega) (fun k hk => (hown1.lt k hk).1)
  have hwd := hr.1
  clear hown1 hgrow1 hnil1 hgrow2 hnil2 hb1 hr
  go_wp2
  go_ret
  exact ⟨g, c2, rfl, ⟨hbg, hlt, hcap, hwd, hown2⟩, hb2⟩

set_option maxHeartbeats 800000 in
theorem kept15_any (A : Option Addr) (g cap c : Nat) (base : Nat) (l : List Ev) (w : World) (hl : l.length ≤ 1099511627776) (h : LentV w base g cap l) (hr : EvR w w.heap.size A l) :
    Calls Try.prog 18 #[.slice (some ⟨g, 0, none⟩) l.length cap, .slice A l.length c] w fun e w' => e = .returned (.bool true) ∧ ∃ m, w' = w.drewN m := by
  have hcap := h.2.2.1
  have hcell : ∀ j u, (l.flatMap ecell ++ markV)[j]? = some u → w.cell? ⟨g, j, none⟩ = some u := by
    intro j u hu
    have := h.2.2.2.2.cells (g := g) rfl j u hu
    rwa [Addr.add_lit, Nat.zero_add] at this
  have h1 : w.cell? ⟨g, l.length * 6 + 1, none⟩ = some (.int .i64 99) := hcell _ _ (by rw [List.getElem?_append_right (by rw [ecell_len]; omega), ecell_len, show l.length * 6 + 1 - l.length * 6 = 1 from by omega]; rfl)
  have hrg := h.reads
  clear hcell h
  go_enter Try.func18, Try.ntmps18
  go_wp2_with (go_at_call 62; refine (sameEvents_any _ _ _ _ l _ hrg hr hl).mono ?_; rintro e w' ⟨rfl, m, rfl⟩)
  go_ret
  exact ⟨rfl, m, rfl⟩
end Go.Proofs.Ytjifpjfinffamaa
