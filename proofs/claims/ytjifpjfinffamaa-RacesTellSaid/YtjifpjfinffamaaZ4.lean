/- Texts Y5, laid together. -/
import Derived.Test.YtjifpjfinffamaaZ3
import Derived.BigRegion
import Derived.Handy
section
namespace Go.Proofs.Ytjifpjfinffamaa
open Go.RowKit
structure BS where
  num : Int
  rd : List (Int × Int)
  wt : List (Int × Int)
  look : Nat
  lk : Bool
def bst (th : Int) (s : BS) (i : Nat) (e : Ev) : BS :=
  if e.th ≠ th then s else if e.kind = 1 ∨ e.kind = 4 then ⟨e.word / 2, s.rd, s.wt, i, s.lk⟩ else if e.kind = 2 then (if e.own = true then s else ⟨s.num, s.rd ++ [(e.addr, e.word)], s.wt, s.look, s.lk⟩)
  else if e.kind = 3 then ⟨s.num, s.rd, s.wt ++ [(e.addr, e.word)], s.look, s.lk⟩ else if e.kind = 5 then ⟨s.num, s.rd, s.wt, s.look, true⟩ else s
def bfo (th : Int) : BS → List Ev → Nat → Nat → BS
  | s, e :: r, i, n + 1 => bfo th (bst th s i e) r (i + 1) n
  | s, _, _, _ => s
theorem bfo_step {l : List Ev} {p last : Nat} {e : Ev} (he : l[p]? = some e) (hp : p ≤ last) (th : Int) (s : BS) : bfo th s (l.drop p) p (last + 1 - p) = bfo th (bst th s p e) (l.drop (p + 1)) (p + 1) (last + 1 - (p + 1)) := by
  obtain ⟨hp', rfl⟩ := List.getElem?_eq_some_iff.1 he
  rw [List.drop_eq_getElem_cons hp', show last + 1 - p = (last + 1 - (p + 1)) + 1 by omega]
  rfl
theorem bfo_end {l : List Ev} {p last : Nat} (hp : last < p) (th : Int) (s : BS) : bfo th s (l.drop p) p (last + 1 - p) = s := by
  rw [show last + 1 - p = 0 by omega]
  cases l.drop p <;> rfl
def finB (th : Int) (at_ last : Nat) (ov : Bool) (e : Ev) (s : BS) : Bl :=
  if ov = false then ⟨th, 5, at_, last, s.num, false, 0, s.rd, s.wt⟩
  else if e.kind = 6 then ⟨th, 1, at_, last, e.word, s.lk, 0, s.rd, s.wt⟩
  else if e.kind = 8 then ⟨th, 2, at_, last, s.num, false, 0, s.rd, s.wt⟩
  else if e.kind = 9 then ⟨th, 3, at_, last, s.num, false, e.err, s.rd, s.wt⟩
  else if e.kind = 7 then ⟨th, 4, at_, last, s.num, false, 0, s.rd, s.wt⟩
  else ⟨th, 5, at_, last, s.num, false, 0, s.rd, s.wt⟩
def ev0 : Ev := ⟨0, 0, 0, 0, false, 0⟩
def bs0 (at_ : Nat) : BS := ⟨0, [], [], at_, false⟩
def docB (l : List Ev) (at_ : Nat) : Bl × Nat :=
  ((finB (l.getD at_ ev0).th at_ (endF (l.getD at_ ev0).th (l.drop (at_ + 1)) (at_ + 1) at_).1 (endF (l.getD at_ ev0).th (l.drop (at_ + 1)) (at_ + 1) at_).2 (l.getD (endF (l.getD at_ ev0).th (l.drop (at_ + 1)) (at_ + 1) at_).1 ev0)
    (bfo (l.getD at_ ev0).th (bs0 at_) (l.drop at_) at_ ((endF (l.getD at_ ev0).th (l.drop (at_ + 1)) (at_ + 1) at_).1 + 1 - at_))),
   (bfo (l.getD at_ ev0).th (bs0 at_) (l.drop at_) at_ ((endF (l.getD at_ ev0).th (l.drop (at_ + 1)) (at_ + 1) at_).1 + 1 - at_)).look)
theorem endF_range (th : Int) : ∀ (r : List Ev) (i last : Nat), last < i → last ≤ (endF th r i last).1 ∧ (endF th r i last).1 < i + r.length
  | [], i, last, h => by simp [endF]; omega
  | e :: r, i, last, h => by
    unfold endF
    split
    · have := endF_range th r (i + 1) last (by omega)
      simp only [List.length_cons]
      omega
    · split
      · simp only [List.length_cons]
        omega
      · have := endF_range th r (i + 1) i (by omega)
        simp only [List.length_cons]
        omega
theorem HB.one {w : World} {base g c : Nat} {b : Bl} {hd : Nat → Value} (h : HB w base (some ⟨g, 0, none⟩) 1 c [b] hd) :
    (base ≤ g ∧ g < w.heap.size) ∧ OwnN w base (hd 0) b.rd ∧ OwnN w base (hd 1) b.wt ∧ Ap (hd 0) (hd 1) ∧
    w.cell? ⟨g, 0, none⟩ = some (.int .i64 b.th) ∧ w.cell? ⟨g, 1, none⟩ = some (.int .i64 b.kind) ∧ w.cell? ⟨g, 2, none⟩ = some (.int .i64 (b.first : Int)) ∧ w.cell? ⟨g, 3, none⟩ = some (.int .i64 (b.last : Int)) ∧ w.cell? ⟨g, 4, none⟩ = some (.int .u64 b.num) ∧
    w.cell? ⟨g, 5, none⟩ = some (.bool b.wr) ∧ w.cell? ⟨g, 6, none⟩ = some (.int .i64 b.err) ∧ w.cell? ⟨g, 7, none⟩ = some (hd 0) ∧ w.cell? ⟨g, 8, none⟩ = some (hd 1) := by
  obtain ⟨g', hA, _, hc, _, _⟩ := h.reads.at_ (Below.refl _ _) (j := 0) (by decide)
  injection hA with hA
  injection hA with hA
  subst hA
  obtain ⟨c0, c1, c2, c3, c4, c5, c6, c7, c8⟩ := hc
  exact ⟨h.row.lt g rfl, h.own 0 (by decide), h.own 1 (by decide), h.apart 0 1 (by decide) (by decide) (by decide), c0, c1, c2, c3, c4, c5, c6, c7, c8⟩
theorem HB.lit (w : World) (base : Nat) (th k : Int) (f l : Nat) (nm : Int) (wr : Bool) (er : Int) (hb : base ≤ w.heap.size) :
    HB (w.alloc (.cells #[.int .i64 th, .int .i64 k, .int .i64 (f : Int), .int .i64 (l : Int), .int .u64 nm, .bool wr, .int .i64 er, .slice none 0 0, .slice none 0 0] 43)) base (some ⟨w.heap.size, 0, none⟩) 1 1 [⟨th, k, f, l, nm, wr, er, [], []⟩] (fun _ => .slice none 0 0) := by
  refine ⟨rfl, ?_, fun i hi => ?_, fun i k _ _ _ g h => by cases h⟩
  · have h := World.ownsRow_lit (base := base) (e := 43) (size := 9) w #[.int .i64 th, .int .i64 k, .int .i64 (f : Int), .int .i64 (l : Int), .int .u64 nm, .bool wr, .int .i64 er, .slice none 0 0, .slice none 0 0] 1 hb (by decide) rfl
    exact h
  · have : ent [⟨th, k, f, l, nm, wr, er, [], []⟩] i = [] := by
      have : i = 0 ∨ i = 1 := by omega
      rcases this with rfl | rfl <;> rfl
    rw [this]
    exact OwnN.nil _ _
end Go.Proofs.Ytjifpjfinffamaa
end
