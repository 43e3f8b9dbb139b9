/- Words for memory that the walks of this family use: a slice that reads as a list of numbers or of edges; an owned row at one append. -/
import Derived.Test.YtjifpjfinffamaaProg
import Derived.Test.YtjifpjfinffamaaM1
import Derived.WalkKit
import Derived.WalkSpells
import Derived.WalkLawsBesides
import Derived.Lib.Hide
import Derived.Deep.AppendLies
import Derived.Deep.Draws
import Derived.KernelRfl
namespace Go.Proofs.Ytjifpjfinffamaa
open Go.RowKit

/-- the slice's address leads to the numbers xs (of kind kd), in a block below B -/
def RK (kd : IntKind) (w : World) (B : Nat) (A : Option Addr) (xs : List Int) : Prop :=
  0 < xs.length → ∃ b off, A = some ⟨b, off, none⟩ ∧ b < B ∧ ∀ i (h : i < xs.length), w.cell? ⟨b, off + i, none⟩ = some (.int kd xs[i])
/-- the slice's address leads to the edges l, in a block below B -/
def RE (w : World) (B : Nat) (A : Option Addr) (l : List E) : Prop :=
  0 < l.length → ∃ b off, A = some ⟨b, off, none⟩ ∧ b < B ∧ ∀ i (h : i < l.length),
    w.cell? ⟨b, off + i * 3, none⟩ = some (.int .i64 l[i].f) ∧ w.cell? ⟨b, off + i * 3 + 1, none⟩ = some (.int .i64 l[i].t) ∧ w.cell? ⟨b, off + i * 3 + 2, none⟩ = some (.int .i64 l[i].k)
/-- the slice's address leads to rows of numbers: row r's header is (A r) (C r) -/
def RR (w : World) (B : Nat) (A : Option Addr) (rows : List (List Int)) : Prop :=
  0 < rows.length → ∃ b off, A = some ⟨b, off, none⟩ ∧ b < B ∧ ∀ i (h : i < rows.length), ∃ Ai ci, w.cell? ⟨b, off + i, none⟩ = some (.slice Ai rows[i].length ci) ∧ RK .i64 w B Ai rows[i]

section
variable {w w' : World} {B B' : Nat} {A : Option Addr} {kd : IntKind}

theorem RK.keep {xs : List Int} (h : RK kd w B A xs) (hk : ∀ p : Addr, p.block < B → w'.cell? p = w.cell? p) : RK kd w' B A xs := fun hn => by
  obtain ⟨b, off, e, hb, hc⟩ := h hn
  exact ⟨b, off, e, hb, fun i hi => (hk _ hb).trans (hc i hi)⟩
theorem RK.more {xs : List Int} (h : RK kd w B A xs) (hB : B ≤ B') : RK kd w B' A xs := fun hn => by
  obtain ⟨b, off, e, hb, hc⟩ := h hn
  exact ⟨b, off, e, by omega, hc⟩
theorem RK.below {xs : List Int} (h : RK kd w B A xs) (hb : Below B w w') : RK kd w' B A xs := h.keep fun _ hp => hb.cell hp
theorem RE.keep {l : List E} (h : RE w B A l) (hk : ∀ p : Addr, p.block < B → w'.cell? p = w.cell? p) : RE w' B A l := fun hn => by
  obtain ⟨b, off, e, hb, hc⟩ := h hn
  exact ⟨b, off, e, hb, fun i hi => ⟨(hk ⟨b, off + i * 3, none⟩ hb).trans (hc i hi).1, (hk ⟨b, off + i * 3 + 1, none⟩ hb).trans (hc i hi).2.1, (hk ⟨b, off + i * 3 + 2, none⟩ hb).trans (hc i hi).2.2⟩⟩
theorem RE.more {l : List E} (h : RE w B A l) (hB : B ≤ B') : RE w B' A l := fun hn => by
  obtain ⟨b, off, e, hb, hc⟩ := h hn
  exact ⟨b, off, e, by omega, hc⟩
theorem RE.below {l : List E} (h : RE w B A l) (hb : Below B w w') : RE w' B A l := h.keep fun _ hp => hb.cell hp
theorem RR.keep {rows : List (List Int)} (h : RR w B A rows) (hk : ∀ p : Addr, p.block < B → w'.cell? p = w.cell? p) : RR w' B A rows := fun hn => by
  obtain ⟨b, off, e, hb, hc⟩ := h hn
  refine ⟨b, off, e, hb, fun i hi => ?_⟩
  obtain ⟨Ai, ci, h1, h2⟩ := hc i hi
  exact ⟨Ai, ci, (hk _ hb).trans h1, h2.keep hk⟩
theorem RR.more {rows : List (List Int)} (h : RR w B A rows) (hB : B ≤ B') : RR w B' A rows := fun hn => by
  obtain ⟨b, off, e, hb, hc⟩ := h hn
  refine ⟨b, off, e, by omega, fun i hi => ?_⟩
  obtain ⟨Ai, ci, h1, h2⟩ := hc i hi
  exact ⟨Ai, ci, h1, h2.more hB⟩
theorem RR.below {rows : List (List Int)} (h : RR w B A rows) (hb : Below B w w') : RR w' B A rows := h.keep fun _ hp => hb.cell hp

/-- element k, asked for in a later world; its number a letter -/
theorem RK.at_ {xs : List Int} (h : RK kd w B A xs) (hb : Below B w w') {k : Nat} (hk : k < xs.length) :
    ∃ b off x, A = some ⟨b, off, none⟩ ∧ b < B ∧ Hid (xs[k]? = some x) ∧ w'.cell? ⟨b, off + k, none⟩ = some (.int kd x) := by
  obtain ⟨b, off, e, hB, hc⟩ := h (by omega)
  exact ⟨b, off, xs[k], e, hB, List.getElem?_eq_getElem hk, (hb.cell (p := ⟨b, off + k, none⟩) hB).trans (hc k hk)⟩
theorem RE.at_ {l : List E} (h : RE w B A l) (hb : Below B w w') {k : Nat} (hk : k < l.length) :
    ∃ b off f t kk, A = some ⟨b, off, none⟩ ∧ b < B ∧ Hid (l[k]? = some ⟨f, t, kk⟩) ∧ w'.cell? ⟨b, off + k * 3, none⟩ = some (.int .i64 f) ∧ w'.cell? ⟨b, off + k * 3 + 1, none⟩ = some (.int .i64 t) ∧ w'.cell? ⟨b, off + k * 3 + 2, none⟩ = some (.int .i64 kk) := by
  obtain ⟨b, off, hA, hB, hc⟩ := h (by omega)
  obtain ⟨h1, h2, h3⟩ := hc k hk
  refine ⟨b, off, l[k].f, l[k].t, l[k].k, hA, hB, (by show l[k]? = _; rw [List.getElem?_eq_getElem hk]), ?_, ?_, ?_⟩
  · exact (hb.cell (p := ⟨b, off + k * 3, none⟩) hB).trans h1
  · exact (hb.cell (p := ⟨b, off + k * 3 + 1, none⟩) hB).trans h2
  · exact (hb.cell (p := ⟨b, off + k * 3 + 2, none⟩) hB).trans h3
end

theorem bdrewN {B : Nat} {a w : World} (h : Below B a w) (n : Nat) : Below B a (w.drewN n) := ⟨h.os, h.tape, h.output, h.size, h.block⟩

/-- the numbers that an owned row of one-cell elements holds -/
theorem RK.of_own {kd : IntKind} {w : World} {base e : Nat} {A : Option Addr} {c : Nat} {xs : List Int} (h : w.ownsRow base e 1 (.slice A xs.length c) xs.length (xs.map (Value.int kd))) : RK kd w w.heap.size A xs := by
  intro hn
  obtain ⟨g, cap, hv, _, hlt⟩ := h.form hn
  have hA : A = some ⟨g, 0, none⟩ := by injection hv
  subst hA
  refine ⟨g, 0, rfl, hlt, fun i hi => ?_⟩
  have := h.cells (g := g) rfl i (.int kd xs[i]) (by simp [hi])
  rw [Addr.add_lit] at this
  simpa using this
end Go.Proofs.Ytjifpjfinffamaa
