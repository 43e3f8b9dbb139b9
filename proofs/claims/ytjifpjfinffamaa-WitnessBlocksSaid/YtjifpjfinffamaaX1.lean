/- Walks: small ones of layer 15: Wrong, long, lent, kept, lists that are the same. -/
import Derived.Test.YtjifpjfinffamaaV6
import Derived.Test.YtjifpjfinffamaaW2
namespace Go.Proofs.Ytjifpjfinffamaa
open Go.RowKit

theorem sameInts_any (A B : Option Addr) (c d : Nat) (l : List Int) (w : World) (hx : RK .i64 w w.heap.size A l) (hy : RK .i64 w w.heap.size B l) (hl : l.length ≤ 140737488351232) :
    Calls Try.prog 22 #[.slice A l.length c, .slice B l.length d] w fun e w' => e = .returned (.bool true) ∧ ∃ m, w' = w.drewN m := by
  have hne : ((l.length : Int) != l.length) = false := by simp
  go_enter Try.func22, Try.ntmps22
  go_wp2
  go_loopw [5] (fun i wr => ∃ k : Nat, k ≤ l.length ∧ i = .int .i64 k ∧ ∃ m, wr = w.drewN m) (fun i _ => l.length - (intOf i).toNat)
  case atStart => exact ⟨0, Nat.zero_le _, rfl, 0, rfl⟩
  case round =>
    obtain ⟨k, hk, rfl, m, rfl⟩ := hrel
    by_cases hlt : k < l.length
    · obtain ⟨b, off, x, rfl, hb, he, h1⟩ := hx.at_ (Below.refl _ _) hlt
      obtain ⟨b2, off2, y, rfl, hb2, he2, h4⟩ := hy.at_ (Below.refl _ _) hlt
      have hee : y = x := by
        have := he.out.symm.trans he2.out
        simpa using this.symm
      subst hee
      have i1 : (0 : Int) ≤ (k : Int) := by omega
      have i2 : (k : Int) < (l.length : Int) := by omega
      have i3 : (y != y) = false := by simp
      clear hx hy hne he he2
      go_wp2
      go_quiet (fail)
      go_wp2
      go_roundw
      case rel => exact ⟨k + 1, by omega, by go_num, _, rfl⟩
      case measure => simp [intOf]; omega
    · go_wp2
      go_ret
      exact ⟨rfl, m, rfl⟩

set_option maxHeartbeats 800000 in
theorem sameEvents_any (A B : Option Addr) (c d : Nat) (l : List Ev) (w : World) (hx : EvR w w.heap.size A l) (hy : EvR w w.heap.size B l) (hl : l.length ≤ 1099511627776) :
    Calls Try.prog 62 #[.slice A l.length c, .slice B l.length d] w fun e w' => e = .returned (.bool true) ∧ ∃ m, w' = w.drewN m := by
  have hne : ((l.length : Int) != l.length) = false := by simp
  go_enter Try.func62, Try.ntmps62
  go_wp2
  go_loopw [5] (fun i wr => ∃ k : Nat, k ≤ l.length ∧ i = .int .i64 k ∧ ∃ m, wr = w.drewN m) (fun i _ => l.length - (intOf i).toNat)
  case atStart => exact ⟨0, Nat.zero_le _, rfl, 0, rfl⟩
  case round =>
    obtain ⟨k, hk, rfl, m, rfl⟩ := hrel
    by_cases hlt : k < l.length
    · obtain ⟨b, off, e, rfl, hb, he, _, h0, h1, h2, h3, h4, h5⟩ := hx.at_ (Below.refl _ _) hlt
      obtain ⟨b2, off2, e2, rfl, hb2, he2, _, g0, g1, g2, g3, g4, g5⟩ := hy.at_ (Below.refl _ _) hlt
      have hee : e2 = e := by
        have := he.out.symm.trans he2.out
        simpa using this.symm
      subst hee
      obtain ⟨t, kk, a, x, o, er⟩ := e2
      simp only at h0 h1 h2 h3 h4 h5 g0 g1 g2 g3 g4 g5
      clear hx hy hne he he2
      have i1 : (0 : Int) ≤ (k : Int) := by omega
      have i2 : (k : Int) < (l.length : Int) := by omega
      go_wp2
      go_quiet (fail)
      go_wp2
      go_roundw
      case rel => exact ⟨k + 1, by omega, by go_num, _, rfl⟩
      case measure => simp [intOf]; omega
    · go_wp2
      go_ret
      exact ⟨rfl, m, rfl⟩

theorem wrong15_any (A : Option Addr) (cap : Nat) (l : List Ev) (w : World) (hl : l.length ≤ 1099511627776) (hc : EvR w w.heap.size A l) :
    Calls Try.prog 14 #[.slice A l.length cap] w fun e w' => e = .returned (.int .i64 (chk ss0 l 0).2) ∧ Below w.heap.size w w' := by
  have HG := Lib.hid (refCheck_any A cap l w hl hc)
  clear hc
  generalize chk ss0 l 0 = R at *
  obtain ⟨x, y⟩ := R
  go_enter Try.func14, Try.ntmps14
  go_wp2_with (go_at_call 58; refine halt_ ?_)
  refine Halt_.go ?_
  refine HG.out.mono ?_
  rintro e w1 ⟨rfl, hb⟩
  have HB := Lib.hid (hb.alloc hb.size (.cells #[.int .i64 x, .int .i64 y] 99))
  clear hb HG
  unfold oddV
  go_wp2
  go_ret
  exact ⟨rfl, HB.out⟩

/-! a history that is lent: at the head of block g, a mark behind it -/
def ecell (e : Ev) : List Value := [.int .i64 e.th, .int .i64 e.kind, .int .u64 e.addr, .int .u64 e.word, .bool e.own, .int .i64 e.err]
def markV : List Value := [.int .i64 0, .int .i64 99, .int .u64 0, .int .u64 0, .bool false, .int .i64 0]
theorem info97 : (Try.prog.info? 97).map (fun i => (i.zero, i.size, i.bytes)) = some (some (.agg #[.int .i64 0, .int .i64 0, .int .u64 0, .int .u64 0, .bool false, .int .i64 0]), 6, 48) := by kernel_rfl
theorem ecell_len (l : List Ev) : (l.flatMap ecell).length = l.length * 6 := by
  induction l with
  | nil => rfl
  | cons e r ih => simp [List.flatMap_cons, ih, ecell]; omega
theorem ecell_get : ∀ (l : List Ev) (i : Nat) (h : i < l.length), (l.flatMap ecell)[i * 6]? = some (.int .i64 l[i].th) ∧ (l.flatMap ecell)[i * 6 + 1]? = some (.int .i64 l[i].kind) ∧ (l.flatMap ecell)[i * 6 + 2]? = some (.int .u64 l[i].addr) ∧
    (l.flatMap ecell)[i * 6 + 3]? = some (.int .u64 l[i].word) ∧ (l.flatMap ecell)[i * 6 + 4]? = some (.bool l[i].own) ∧ (l.flatMap ecell)[i * 6 + 5]? = some (.int .i64 l[i].err)
  | [], i, h => by simp at h
  | e :: r, 0, h => by simp [List.flatMap_cons, ecell]
  | e :: r, i + 1, h => by
    have hi : i < r.length := by simpa using h
    have ih := ecell_get r i hi
    have e1 : (i + 1) * 6 = i * 6 + 6 := by omega
    have l6 : (ecell e).length = 6 := rfl
    rw [List.flatMap_cons, e1]
    have hk : ∀ j v, (r.flatMap ecell)[i * 6 + j]? = some v → (ecell e ++ r.flatMap ecell)[i * 6 + 6 + j]? = some v := fun j v hv => by
      rw [List.getElem?_append_right (by omega), l6, show i * 6 + 6 + j - 6 = i * 6 + j by omega]
      exact hv
    exact ⟨hk 0 _ ih.1, hk 1 _ ih.2.1, hk 2 _ ih.2.2.1, hk 3 _ ih.2.2.2.1, hk 4 _ ih.2.2.2.2.1, hk 5 _ ih.2.2.2.2.2⟩
theorem ecell_one (l : List Ev) : ∀ u ∈ l.flatMap ecell, u.oneCell' = true := by
  intro u hu
  obtain ⟨e, _, hu⟩ := List.mem_flatMap.1 hu
  simp [ecell] at hu
  rcases hu with rfl | rfl | rfl | rfl | rfl | rfl <;> rfl
theorem EvR.of_cells {w : World} {B g : Nat} {l : List Ev} (hwd : ∀ e ∈ l, e.Wd) (hg : g < B) (h : ∀ j u, (l.flatMap ecell)[j]? = some u → w.cell? ⟨g, j, none⟩ = some u) : EvR w B (some ⟨g, 0, none⟩) l := by
  refine ⟨hwd, fun _ => ⟨g, 0, rfl, hg, fun i hi => ?_⟩⟩
  obtain ⟨h0, h1, h2, h3, h4, h5⟩ := ecell_get l i hi
  simp only [Nat.zero_add]
  exact ⟨h _ _ h0, h _ _ h1, h _ _ h2, h _ _ h3, h _ _ h4, h _ _ h5⟩
theorem EvR.cells {w : World} {B : Nat} {A : Option Addr} {l : List Ev} (h : EvR w B A l) : ∀ ad, A = some ad → ∀ j u, (l.flatMap ecell)[j]? = some u → w.cell? (ad.add j) = some u := by
  intro ad hA j u hu
  have hj : j < l.length * 6 := by
    have := (List.getElem?_eq_some_iff.1 hu).1
    rwa [ecell_len] at this
  obtain ⟨b, off, e, hb, hc⟩ := h.2 (by omega)
  rw [hA] at e
  injection e with e
  subst e
  rw [Addr.add_lit]
  have hi : j / 6 < l.length := by omega
  obtain ⟨a0, a1, a2, a3, a4, a5⟩ := hc (j / 6) hi
  obtain ⟨b0, b1, b2, b3, b4, b5⟩ := ecell_get l (j / 6) hi
  have hm : j % 6 = 0 ∨ j % 6 = 1 ∨ j % 6 = 2 ∨ j % 6 = 3 ∨ j % 6 = 4 ∨ j % 6 = 5 := by omega
  rcases hm with h3 | h3 | h3 | h3 | h3 | h3
  · have ej : j = j / 6 * 6 := by omega
    rw [ej] at hu ⊢
    rw [b0] at hu
    exact a0.trans hu
  · have ej : j = j / 6 * 6 + 1 := by omega
    rw [ej] at hu ⊢
    rw [b1] at hu
    exact a1.trans hu
  · have ej : j = j / 6 * 6 + 2 := by omega
    rw [ej] at hu ⊢
    rw [b2] at hu
    exact a2.trans hu
  · have ej : j = j / 6 * 6 + 3 := by omega
    rw [ej] at hu ⊢
    rw [b3] at hu
    exact a3.trans hu
  · have ej : j = j / 6 * 6 + 4 := by omega
    rw [ej] at hu ⊢
    rw [b4] at hu
    exact a4.trans hu
  · have ej : j = j / 6 * 6 + 5 := by omega
    rw [ej] at hu ⊢
    rw [b5] at hu
    exact a5.trans hu
theorem EvR.none_ {w : World} {B : Nat} {A : Option Addr} {l : List Ev} (h : EvR w B A l) (hA : A = none) : l.length = 0 := by
  rcases Nat.eq_zero_or_pos l.length with h0 | h0
  · exact h0
  · obtain ⟨b, off, e, _⟩ := h.2 h0
    rw [hA] at e; cases e
end Go.Proofs.Ytjifpjfinffamaa
