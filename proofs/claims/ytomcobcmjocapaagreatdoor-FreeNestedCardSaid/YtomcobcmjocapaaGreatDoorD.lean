/- The memory's state; the cells' functions. -/
import Derived.Test.YtomcobcmjocapaaGreatDoorC
namespace Go.Proofs.YtomcobcmjocapaaGreatDoor
open Go.RowKit Go.MuLone

def f6 (a b c d e f : Value) (i : Nat) : Value := if i = 0 then a else if i = 1 then b else if i = 2 then c else if i = 3 then d else if i = 4 then e else f
/-- the cells of a memory -/
def memF (cb sc ch : Nat) (ck st od : Int) (i : Nat) : Value :=
  if i = 0 then .pointer (some ⟨cb, 0, none⟩) else if i = 1 then .int .u64 ck else if i = 2 then .int .u32 st else if i = 3 then .chan (some sc) else if i = 4 then .int .u32 od
  else if i = 5 then .int .i32 0 else if i = 6 then .int .u32 0 else if i = 7 then .int .i64 0 else if i = 8 then .int .i32 0 else if i = 9 then .int .u32 0 else .chan (some ch)
def wds (ws : List Int) : List Value := ws.map (Value.int .u64)
/-- cells: block cb, words in block g -/
structure CelR (w : World) (lo cb g : Nat) (ws : List Int) : Prop where
  blk : Blk w lo 83 cb 1 (fun _ => .slice (some ⟨g, 0, none⟩) ws.length ws.length)
  row : w.ownsRow lo 52 1 (.slice (some ⟨g, 0, none⟩) ws.length ws.length) ws.length (wds ws)
  pos : 0 < ws.length
/-- a memory: its struct in block m, cells in cb and g, channels sc and ch; the clock, stopped, the once -/
structure MemR (w : World) (lo m cb g sc ch : Nat) (ws : List Int) (ck st od : Int) (sb : Bool) : Prop where
  blk : Blk w lo 68 m 11 (memF cb sc ch ck st od)
  cel : CelR w lo cb g ws
  chn : w.heap[ch]? = some (.chan 0 #[] false 0 0 false)
  schn : w.heap[sc]? = some (.chan 0 #[] sb 0 0 false)
  lch : lo ≤ ch ∧ ch < w.heap.size ∧ lo ≤ sc ∧ sc < w.heap.size ∧ ch ≠ sc
section
variable {w w' : World} {lo m cb g sc ch : Nat} {ws : List Int} {ck st od : Int} {sb : Bool}
theorem CelR.lt (h : CelR w lo cb g ws) : lo ≤ cb ∧ cb < w.heap.size ∧ lo ≤ g ∧ g < w.heap.size := ⟨h.blk.lt.1, h.blk.lt.2, World.ownsRow.lt h.row g rfl⟩
theorem CelR.kept (h : CelR w lo cb g ws) (hc : w'.heap[cb]? = w.heap[cb]?) (hg : w'.heap[g]? = w.heap[g]?) : CelR w' lo cb g ws :=
  ⟨h.blk.kept hc, own_keep h.row fun k hk => by injection hk with hk; subst hk; exact hg, h.pos⟩
theorem CelR.c0 (h : CelR w lo cb g ws) : w.cell? ⟨cb, 0, none⟩ = some (.slice (some ⟨g, 0, none⟩) ws.length ws.length) := (h.blk.cell (j := 0) (by omega)).1
theorem CelR.at_ (h : CelR w lo cb g ws) {i : Nat} {x : Int} (hi : ws[i]? = some x) : w.cell? ⟨g, i, none⟩ = some (.int .u64 x) ∧ w.frozen? ⟨g, i, none⟩ = false := by
  refine ⟨?_, h.row.frozenAt i⟩
  have hl := (List.getElem?_eq_some_iff.1 hi).1
  rw [h.row.cellAt i (by simpa using hl)]
  simp [wds, hi]
/-- a block of structs is no row of another type -/
theorem blk_ne {t b n t' b' n' c : Nat} {f : Nat → Value} {xs : List Value} {lo' : Nat} {s : Nat} (h : Blk w lo t b n f) (h' : w.ownsRow lo' t' s (.slice (some ⟨b', 0, none⟩) n' c) n' xs) (ht : t' ≠ t) : b' ≠ b := by
  rcases (show _ ∨ _ from h.2) with h2 | ⟨g0, cap', cur, hv, hbg, hh, h3⟩
  · exact absurd h2.2 (by simp)
  · injection hv with hv
    injection hv with hv
    injection hv with hv
    subst hv
    intro e
    have := own_ne_blk h' hh ht
    exact this (by rw [e]; rfl)
end
end Go.Proofs.YtomcobcmjocapaaGreatDoor
