/- Plain: histories, and whether one can be: event by event, as both programs reckon it. -/
import Derived.Test.YtjifpjfinffamaaLib2
import Derived.Test.YtjifpjfinffamaaM1
namespace Go.Proofs.Ytjifpjfinffamaa
open Go.RowKit

structure Ev where
  th : Int
  kind : Int
  addr : Int
  word : Int
  own : Bool
  err : Int
deriving DecidableEq
/-- the words are words -/
def Ev.Wd (e : Ev) : Prop := (0 ≤ e.addr ∧ e.addr < 18446744073709551616) ∧ (0 ≤ e.word ∧ e.word < 18446744073709551616)
def evs (e : Ev) : List Value := [.int .i64 e.th, .int .i64 e.kind, .int .u64 e.addr, .int .u64 e.word, .bool e.own, .int .i64 e.err]
abbrev evV (e : Ev) : Value := .agg #[.int .i64 e.th, .int .i64 e.kind, .int .u64 e.addr, .int .u64 e.word, .bool e.own, .int .i64 e.err]

def PairK (k : Int) : Prop := k = 2 ∨ k = 3 ∨ k = 10 ∨ k = 11
def SingleK (k : Int) : Prop := k = 1 ∨ k = 4 ∨ k = 6
instance (k : Int) : Decidable (PairK k) := inferInstanceAs (Decidable (k = 2 ∨ k = 3 ∨ k = 10 ∨ k = 11))
instance (k : Int) : Decidable (SingleK k) := inferInstanceAs (Decidable (k = 1 ∨ k = 4 ∨ k = 6))
/-- what is asked of an event's form, its thread and kind aside -/
def Rest (e : Ev) : Prop :=
  (PairK e.kind ∨ e.addr = 0) ∧ (PairK e.kind ∨ SingleK e.kind ∨ e.word = 0) ∧ (e.kind = 2 ∨ e.own = false) ∧ (e.kind ≠ 1 ∧ e.kind ≠ 4 ∨ e.word % 2 = 0) ∧ (e.kind = 9 ∧ (e.err = 4 ∨ e.err = 5 ∨ e.err = 6) ∨ e.kind ≠ 9 ∧ e.err = 0)
def Fm (e : Ev) : Prop := (0 ≤ e.th ∧ e.th < 8) ∧ (1 ≤ e.kind ∧ e.kind ≤ 12) ∧ Rest e
instance (e : Ev) : Decidable (Rest e) := inferInstanceAs (Decidable (_ ∧ _ ∧ _ ∧ _ ∧ _))
instance (e : Ev) : Decidable (Fm e) := inferInstanceAs (Decidable (_ ∧ _ ∧ _))

/-- how the thread is behind the event; -1: it may not have it -/
def nextI (how kind err : Int) : Int :=
  if how = 0 then (if kind = 1 then 1 else if kind = 10 ∨ kind = 11 then 0 else if kind = 12 then 3 else if kind = 9 ∧ err = 4 then 3 else -1)
  else if how = 1 then (if kind = 2 ∨ kind = 3 ∨ kind = 4 then 1 else if kind = 5 then 2 else if kind = 6 ∨ kind = 7 ∨ kind = 8 then 0 else if kind = 9 then 3 else -1)
  else if how = 2 then (if kind = 6 then 0 else -1)
  else -1
structure TS where
  how : Int
  snap : Int
  wr : List (Int × Int)
structure SS where
  t : Nat → TS
  num : Int
/-- the last word written at an address -/
def wrt (l : List (Int × Int)) (a : Int) : Option Int := (l.reverse.find? fun p => p.1 == a).map (·.2)
def two (x : Int) : Int := IntKind.u64.wrap (2 * x)
def lockedB (s : SS) (th : Nat) : Bool := (List.range 8).any fun i => decide (i ≠ th) && decide ((s.t i).how = 2)
def LockK (k : Int) : Prop := k = 1 ∨ k = 4 ∨ k = 5
instance (k : Int) : Decidable (LockK k) := inferInstanceAs (Decidable (k = 1 ∨ k = 4 ∨ k = 5))
def numB (s : SS) (e : Ev) : Bool :=
  if e.kind = 1 then e.word == two s.num
  else if e.kind = 4 then e.word == two s.num && decide ((s.t e.th.toNat).snap < e.word)
  else if e.kind = 5 then (s.t e.th.toNat).snap == two s.num
  else if e.kind = 6 then (if (s.t e.th.toNat).how = 2 then e.word == IntKind.u64.wrap (s.num + 1) else e.word == (s.t e.th.toNat).snap / 2)
  else true
def ownB (s : SS) (e : Ev) : Bool :=
  if e.kind = 2 then (match wrt (s.t e.th.toNat).wr e.addr with | none => !e.own | some x => e.own && x == e.word)
  else if e.kind = 5 then decide (0 < (s.t e.th.toNat).wr.length)
  else if e.kind = 6 then decide ((s.t e.th.toNat).how = 2) || decide ((s.t e.th.toNat).wr.length = 0)
  else true
def putE (s : SS) (e : Ev) : Int :=
  if ¬ Fm e then 201
  else if nextI (s.t e.th.toNat).how e.kind e.err < 0 then 230
  else if LockK e.kind ∧ lockedB s e.th.toNat = true then 231
  else if numB s e = false then 232
  else if ownB s e = false then 233
  else 0
/-- the thread behind the event -/
def advT (t : TS) (e : Ev) : TS :=
  ⟨nextI t.how e.kind e.err, if e.kind = 1 ∨ e.kind = 4 then e.word else t.snap, if e.kind = 1 then [] else if e.kind = 3 then t.wr ++ [(e.addr, e.word)] else t.wr⟩
def adv (s : SS) (e : Ev) : SS :=
  ⟨fun i => if i = e.th.toNat then advT (s.t i) e else s.t i, if e.kind = 6 ∧ (s.t e.th.toNat).how = 2 then e.word else s.num⟩
def ss0 : SS := ⟨fun _ => ⟨0, 0, []⟩, 0⟩
/-- the first event that can't be, and its error -/
def chk : SS → List Ev → Nat → Int × Int
  | _, [], _ => (-1, 0)
  | s, e :: h, i => if putE s e = 0 then chk (adv s e) h (i + 1) else ((i : Int), putE s e)
theorem wrt_snoc (l : List (Int × Int)) (a b c : Int) : wrt (l ++ [(a, b)]) c = if a = c then some b else wrt l c := by
  simp only [wrt, List.reverse_append, List.reverse_cons, List.reverse_nil, List.nil_append, List.singleton_append, List.find?_cons]
  by_cases h : a = c
  · simp [h]
  · have h2 : (a == c) = false := by simpa using h
    rw [h2, if_neg h]
theorem wrt_nil (c : Int) : wrt [] c = none := rfl

/-! memory: histories; a struct in a block of its own -/
/-- the slice's address leads to the events h, in a block below B -/
def EvR (w : World) (B : Nat) (A : Option Addr) (h : List Ev) : Prop :=
  (∀ e ∈ h, e.Wd) ∧ (0 < h.length → ∃ b off, A = some ⟨b, off, none⟩ ∧ b < B ∧ ∀ i (hi : i < h.length),
    w.cell? ⟨b, off + i * 6, none⟩ = some (.int .i64 h[i].th) ∧ w.cell? ⟨b, off + i * 6 + 1, none⟩ = some (.int .i64 h[i].kind) ∧ w.cell? ⟨b, off + i * 6 + 2, none⟩ = some (.int .u64 h[i].addr) ∧
    w.cell? ⟨b, off + i * 6 + 3, none⟩ = some (.int .u64 h[i].word) ∧ w.cell? ⟨b, off + i * 6 + 4, none⟩ = some (.bool h[i].own) ∧ w.cell? ⟨b, off + i * 6 + 5, none⟩ = some (.int .i64 h[i].err))
section
variable {w w' : World} {B B' : Nat} {A : Option Addr} {h : List Ev}
theorem EvR.keep (hr : EvR w B A h) (hk : ∀ p : Addr, p.block < B → w'.cell? p = w.cell? p) : EvR w' B A h := ⟨hr.1, fun hn => by
  obtain ⟨b, off, e, hb, hc⟩ := hr.2 hn
  refine ⟨b, off, e, hb, fun i hi => ?_⟩
  obtain ⟨h0, h1, h2, h3, h4, h5⟩ := hc i hi
  exact ⟨(hk ⟨b, off + i * 6, none⟩ hb).trans h0, (hk ⟨b, off + i * 6 + 1, none⟩ hb).trans h1, (hk ⟨b, off + i * 6 + 2, none⟩ hb).trans h2, (hk ⟨b, off + i * 6 + 3, none⟩ hb).trans h3, (hk ⟨b, off + i * 6 + 4, none⟩ hb).trans h4, (hk ⟨b, off + i * 6 + 5, none⟩ hb).trans h5⟩⟩
theorem EvR.more (hr : EvR w B A h) (hB : B ≤ B') : EvR w B' A h := ⟨hr.1, fun hn => by
  obtain ⟨b, off, e, hb, hc⟩ := hr.2 hn
  exact ⟨b, off, e, by omega, hc⟩⟩
theorem EvR.below (hr : EvR w B A h) (hb : Below B w w') : EvR w' B A h := hr.keep fun _ hp => hb.cell hp
theorem EvR.at_ (hr : EvR w B A h) (hb : Below B w w') {k : Nat} (hk : k < h.length) :
    ∃ (b off : Nat) (e : Ev), A = some ⟨b, off, none⟩ ∧ b < B ∧ Hid (h[k]? = some e) ∧ e.Wd ∧ w'.cell? ⟨b, off + k * 6, none⟩ = some (.int .i64 e.th) ∧ w'.cell? ⟨b, off + k * 6 + 1, none⟩ = some (.int .i64 e.kind) ∧
      w'.cell? ⟨b, off + k * 6 + 2, none⟩ = some (.int .u64 e.addr) ∧ w'.cell? ⟨b, off + k * 6 + 3, none⟩ = some (.int .u64 e.word) ∧ w'.cell? ⟨b, off + k * 6 + 4, none⟩ = some (.bool e.own) ∧ w'.cell? ⟨b, off + k * 6 + 5, none⟩ = some (.int .i64 e.err) := by
  obtain ⟨b, off, e, hB, hc⟩ := hr.2 (by omega)
  obtain ⟨g0, g1, g2, g3, g4, g5⟩ := hc k hk
  exact ⟨b, off, h[k], e, hB, List.getElem?_eq_getElem hk, hr.1 _ (List.getElem_mem hk), (hb.cell (p := ⟨b, off + k * 6, none⟩) hB).trans g0, (hb.cell (p := ⟨b, off + k * 6 + 1, none⟩) hB).trans g1, (hb.cell (p := ⟨b, off + k * 6 + 2, none⟩) hB).trans g2,
    (hb.cell (p := ⟨b, off + k * 6 + 3, none⟩) hB).trans g3, (hb.cell (p := ⟨b, off + k * 6 + 4, none⟩) hB).trans g4, (hb.cell (p := ⟨b, off + k * 6 + 5, none⟩) hB).trans g5⟩
end

/-- block b is of type t and holds f 0 .. f (n - 1) -/
def Blk (w : World) (base t b n : Nat) (f : Nat → Value) : Prop := w.ownsRow base t n (.slice (some ⟨b, 0, none⟩) 1 1) 1 ((List.range n).map f)
section
variable {w w' : World} {base t b n : Nat} {f g : Nat → Value}
theorem Blk.cell (h : Blk w base t b n f) {j : Nat} (hj : j < n) : w.cell? ⟨b, j, none⟩ = some (f j) ∧ w.frozen? ⟨b, j, none⟩ = false := by
  refine ⟨?_, h.frozenAt j⟩
  rw [h.cellAt j (by omega)]
  simp [hj]
theorem Blk.congr (h : Blk w base t b n f) (hg : ∀ j, j < n → f j = g j) : Blk w base t b n g := by
  unfold Blk
  rwa [show (List.range n).map g = (List.range n).map f from List.map_congr_left fun j hj => (hg j (List.mem_range.1 hj)).symm]
theorem Blk.lt (h : Blk w base t b n f) : base ≤ b ∧ b < w.heap.size := World.ownsRow.lt h b rfl
theorem Blk.base' (h : Blk w base t b n f) {base' : Nat} (hb : base' ≤ base) : Blk w base' t b n f := own_base h hb
theorem Blk.set (h : Blk w base t b n f) (j : Nat) (v : Value) : Blk (w.setCell ⟨b, j, none⟩ v) base t b n (fun i => if i = j then v else f i) := by
  have := (World.ownsRow.stored h j v).1
  unfold Blk
  rwa [show (List.range n).map (fun i => if i = j then v else f i) = ((List.range n).map f).set j v from by
    apply List.ext_getElem?
    intro i
    by_cases hi : i < n
    · by_cases e : i = j
      · subst e
        simp [hi]
      · rw [List.getElem?_set_ne (fun e' => e e'.symm)]
        simp [hi, e]
    · rw [List.getElem?_eq_none (by simp; omega), List.getElem?_eq_none (by simp; omega)]]
theorem Blk.kept (h : Blk w base t b n f) (hk : w'.heap[b]? = w.heap[b]?) : Blk w' base t b n f := by
  refine ⟨(show _ ∧ _ from h).1, ?_⟩
  rcases (show _ ∨ _ from h.2) with h2 | ⟨g', cap', cur, hv, hbg, hh, h3⟩
  · exact .inl h2
  · refine .inr ⟨g', cap', cur, hv, hbg, ?_, h3⟩
    injection hv with hv
    injection hv with hv
    injection hv with hv
    rw [← hv, hk, hv]
    exact hh
theorem Blk.below (h : Blk w base t b n f) {B : Nat} (hw : b < B) (hb : Below B w w') : Blk w' base t b n f := h.kept (hb.block b hw)
end
end Go.Proofs.Ytjifpjfinffamaa
