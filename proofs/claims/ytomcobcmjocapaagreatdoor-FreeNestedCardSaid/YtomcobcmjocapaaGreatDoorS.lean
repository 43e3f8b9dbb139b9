/- The memory's state while a block commits. -/
import Derived.Test.YtomcobcmjocapaaGreatDoorR
import Derived.Conc.EventLaws
namespace Go.Proofs.YtomcobcmjocapaaGreatDoor
open Go.RowKit Go.MuLone
def memG (cb sc ch : Nat) (ck st od wt mu : Int) (i : Nat) : Value :=
  if i = 0 then .pointer (some ⟨cb, 0, none⟩) else if i = 1 then .int .u64 ck else if i = 2 then .int .u32 st else if i = 3 then .chan (some sc) else if i = 4 then .int .u32 od
  else if i = 5 then .int .i32 0 else if i = 6 then .int .u32 0 else if i = 7 then .int .i64 wt else if i = 8 then .int .i32 mu else if i = 9 then .int .u32 0 else .chan (some ch)
/-- as MemR, with who waits, the lock, and is the channel closed -/
structure MemP (w : World) (lo m cb g sc ch : Nat) (ws : List Int) (ck st od : Int) (sb : Bool) (wt mu : Int) (cc : Bool) : Prop where
  blk : Blk w lo 68 m 11 (memG cb sc ch ck st od wt mu)
  cel : CelR w lo cb g ws
  chn : w.heap[ch]? = some (.chan 0 #[] cc 0 0 false)
  schn : w.heap[sc]? = some (.chan 0 #[] sb 0 0 false)
  lch : lo ≤ ch ∧ ch < w.heap.size ∧ lo ≤ sc ∧ sc < w.heap.size ∧ ch ≠ sc
section
variable {w w' : World} {lo m cb g sc ch : Nat} {ws : List Int} {ck st od wt mu : Int} {sb cc : Bool}
theorem eleven {i : Nat} (h : i < 11) : i = 0 ∨ i = 1 ∨ i = 2 ∨ i = 3 ∨ i = 4 ∨ i = 5 ∨ i = 6 ∨ i = 7 ∨ i = 8 ∨ i = 9 ∨ i = 10 := by omega
theorem MemR.toP (h : MemR w lo m cb g sc ch ws ck st od sb) : MemP w lo m cb g sc ch ws ck st od sb 0 0 false :=
  ⟨h.blk.congr fun i hi => by rcases eleven hi with rfl | rfl | rfl | rfl | rfl | rfl | rfl | rfl | rfl | rfl | rfl <;> rfl, h.cel, h.chn, h.schn, h.lch⟩
theorem MemP.toR (h : MemP w lo m cb g sc ch ws ck st od sb 0 0 false) : MemR w lo m cb g sc ch ws ck st od sb :=
  ⟨h.blk.congr fun i hi => by rcases eleven hi with rfl | rfl | rfl | rfl | rfl | rfl | rfl | rfl | rfl | rfl | rfl <;> rfl, h.cel, h.chn, h.schn, h.lch⟩
theorem MemP.c (h : MemP w lo m cb g sc ch ws ck st od sb wt mu cc) {i : Nat} (hi : i < 11) : w.cell? ⟨m, i, none⟩ = some (memG cb sc ch ck st od wt mu i) ∧ w.frozen? ⟨m, i, none⟩ = false := h.blk.cell hi
theorem MemP.m_ne (h : MemP w lo m cb g sc ch ws ck st od sb wt mu cc) : cb ≠ m ∧ g ≠ m ∧ ch ≠ m ∧ sc ≠ m ∧ ch ≠ cb ∧ ch ≠ g ∧ cb ≠ g ∧ sc ≠ cb ∧ sc ≠ g := by
  have hm : w.ownsRow lo 68 11 (.slice (some ⟨m, 0, none⟩) 1 1) 1 _ := h.blk
  have hcb : w.ownsRow lo 83 1 (.slice (some ⟨cb, 0, none⟩) 1 1) 1 _ := h.cel.blk
  obtain ⟨_, _, am⟩ := own_cellsB hm (k := m) rfl
  obtain ⟨_, _, ac⟩ := own_cellsB hcb (k := cb) rfl
  obtain ⟨_, _, ag⟩ := own_cellsB h.cel.row (k := g) rfl
  refine ⟨fun e => ?_, fun e => ?_, fun e => ?_, fun e => ?_, fun e => ?_, fun e => ?_, fun e => ?_, fun e => ?_, fun e => ?_⟩
  · exact own_apart hcb hm (by decide) rfl (by rw [e]; rfl)
  · exact own_apart h.cel.row hm (by decide) rfl (by rw [e]; rfl)
  · rw [← e, h.chn] at am; cases am
  · rw [← e, h.schn] at am; cases am
  · rw [← e, h.chn] at ac; cases ac
  · rw [← e, h.chn] at ag; cases ag
  · exact own_apart hcb h.cel.row (by decide) rfl (by rw [e]; rfl)
  · rw [← e, h.schn] at ac; cases ac
  · rw [← e, h.schn] at ag; cases ag
theorem MemP.ex {S : Nat → Prop} (h : MemP w lo m cb g sc ch ws ck st od sb wt mu cc) (hx : Ex w w' S) (h1 : ¬ S m) (h2 : ¬ S cb) (h3 : ¬ S g) (h4 : ¬ S sc) (h5 : ¬ S ch) : MemP w' lo m cb g sc ch ws ck st od sb wt mu cc := by
  have hl := h.cel.lt
  have hsz := hx.size
  exact ⟨h.blk.kept (hx.block m h.blk.lt.2 h1), h.cel.kept (hx.block cb hl.2.1 h2) (hx.block g hl.2.2.2 h3), (hx.block ch h.lch.2.1 h5).trans h.chn, (hx.block sc h.lch.2.2.2.1 h4).trans h.schn, ⟨h.lch.1, by have := h.lch; omega, h.lch.2.2.1, by have := h.lch; omega, h.lch.2.2.2.2⟩⟩
theorem MemP.below (h : MemP w lo m cb g sc ch ws ck st od sb wt mu cc) (hb : Below w.heap.size w w') : MemP w' lo m cb g sc ch ws ck st od sb wt mu cc := h.ex (S := fun _ => False) (Ex.of_below hb) id id id id id
/-- a cell of the memory's struct is set -/
theorem MemP.setM (h : MemP w lo m cb g sc ch ws ck st od sb wt mu cc) (j : Nat) (v : Value) (ck' st' od' wt' mu' : Int) (hf : ∀ i, i < 11 → (if i = j then v else memG cb sc ch ck st od wt mu i) = memG cb sc ch ck' st' od' wt' mu' i) : MemP (w.setCell ⟨m, j, none⟩ v) lo m cb g sc ch ws ck' st' od' sb wt' mu' cc := by
  obtain ⟨n1, n2, n3, n4, _⟩ := h.m_ne
  have hset : ∀ k, k ≠ m → (w.setCell ⟨m, j, none⟩ v).heap[k]? = w.heap[k]? := fun k hk => Below.heap_setCell w ⟨m, j, none⟩ v k hk
  exact ⟨(h.blk.set j v).congr hf, h.cel.kept (hset cb n1) (hset g n2), (hset ch n3).trans h.chn, (hset sc n4).trans h.schn, by simpa using h.lch⟩
theorem MemP.setCk (h : MemP w lo m cb g sc ch ws ck st od sb wt mu cc) (x : Int) : MemP (w.setCell ⟨m, 1, none⟩ (.int .u64 x)) lo m cb g sc ch ws x st od sb wt mu cc :=
  h.setM 1 _ x st od wt mu fun i hi => by rcases eleven hi with rfl | rfl | rfl | rfl | rfl | rfl | rfl | rfl | rfl | rfl | rfl <;> rfl
theorem MemP.setSt (h : MemP w lo m cb g sc ch ws ck st od sb wt mu cc) (x : Int) : MemP (w.setCell ⟨m, 2, none⟩ (.int .u32 x)) lo m cb g sc ch ws ck x od sb wt mu cc :=
  h.setM 2 _ ck x od wt mu fun i hi => by rcases eleven hi with rfl | rfl | rfl | rfl | rfl | rfl | rfl | rfl | rfl | rfl | rfl <;> rfl
theorem MemP.setOd (h : MemP w lo m cb g sc ch ws ck st od sb wt mu cc) (x : Int) : MemP (w.setCell ⟨m, 4, none⟩ (.int .u32 x)) lo m cb g sc ch ws ck st x sb wt mu cc :=
  h.setM 4 _ ck st x wt mu fun i hi => by rcases eleven hi with rfl | rfl | rfl | rfl | rfl | rfl | rfl | rfl | rfl | rfl | rfl <;> rfl
theorem MemP.setWt (h : MemP w lo m cb g sc ch ws ck st od sb wt mu cc) (x : Int) : MemP (w.setCell ⟨m, 7, none⟩ (.int .i64 x)) lo m cb g sc ch ws ck st od sb x mu cc :=
  h.setM 7 _ ck st od x mu fun i hi => by rcases eleven hi with rfl | rfl | rfl | rfl | rfl | rfl | rfl | rfl | rfl | rfl | rfl <;> rfl
theorem MemP.setMu (h : MemP w lo m cb g sc ch ws ck st od sb wt mu cc) (x : Int) : MemP (w.setCell ⟨m, 8, none⟩ (.int .i32 x)) lo m cb g sc ch ws ck st od sb wt x cc :=
  h.setM 8 _ ck st od wt x fun i hi => by rcases eleven hi with rfl | rfl | rfl | rfl | rfl | rfl | rfl | rfl | rfl | rfl | rfl <;> rfl
/-- the channel is closed -/
theorem MemP.close (h : MemP w lo m cb g sc ch ws ck st od sb wt mu cc) : MemP (w.putObj ch (.chan 0 #[] true 0 0 false)) lo m cb g sc ch ws ck st od sb wt mu true := by
  obtain ⟨n1, n2, n3, n4, n5, n6, _⟩ := h.m_ne
  have hset : ∀ k, k ≠ ch → (w.putObj ch (.chan 0 #[] true 0 0 false)).heap[k]? = w.heap[k]? := fun k hk => World.putObj_heap_other hk
  exact ⟨h.blk.kept (hset m (Ne.symm n3)), h.cel.kept (hset cb (Ne.symm n5)) (hset g (Ne.symm n6)), World.putObj_heap_same h.lch.2.1, (hset sc (Ne.symm h.lch.2.2.2.2)).trans h.schn, by simpa using h.lch⟩
/-- another channel is laid in -/
theorem MemP.newCh (h : MemP w lo m cb g sc ch ws ck st od sb wt mu cc) (ch' : Nat) (hc : w.heap[ch']? = some (.chan 0 #[] false 0 0 false)) (hl : lo ≤ ch' ∧ ch' < w.heap.size ∧ ch' ≠ sc) : MemP (w.setCell ⟨m, 10, none⟩ (.chan (some ch'))) lo m cb g sc ch' ws ck st od sb wt mu false := by
  obtain ⟨n1, n2, n3, n4, _⟩ := h.m_ne
  have hm : w.ownsRow lo 68 11 (.slice (some ⟨m, 0, none⟩) 1 1) 1 _ := h.blk
  obtain ⟨_, _, am⟩ := own_cellsB hm (k := m) rfl
  have n5 : ch' ≠ m := fun e => by rw [← e, hc] at am; cases am
  have hset : ∀ k, k ≠ m → (w.setCell ⟨m, 10, none⟩ (.chan (some ch'))).heap[k]? = w.heap[k]? := fun k hk => Below.heap_setCell w ⟨m, 10, none⟩ _ k hk
  refine ⟨(h.blk.set 10 (.chan (some ch'))).congr fun i hi => by rcases eleven hi with rfl | rfl | rfl | rfl | rfl | rfl | rfl | rfl | rfl | rfl | rfl <;> rfl, h.cel.kept (hset cb n1) (hset g n2), (hset ch' n5).trans hc, (hset sc n4).trans h.schn, ?_⟩
  exact ⟨hl.1, by simpa using hl.2.1, h.lch.2.2.1, by simpa using h.lch.2.2.2.1, hl.2.2⟩
theorem MemP.word (h : MemP w lo m cb g sc ch ws ck st od sb wt mu cc) (a : Nat) (y : Int) : MemP (w.setCell ⟨g, a, none⟩ (.int .u64 y)) lo m cb g sc ch (ws.set a y) ck st od sb wt mu cc := by
  obtain ⟨n1, n2, n3, n4, n5, n6, n7, n8, n9⟩ := h.m_ne
  have hset : ∀ k, k ≠ g → (w.setCell ⟨g, a, none⟩ (.int .u64 y)).heap[k]? = w.heap[k]? := fun k hk => Below.heap_setCell w ⟨g, a, none⟩ _ k hk
  exact ⟨h.blk.kept (hset m (Ne.symm n2)), h.cel.set a y, (hset ch n6).trans h.chn, (hset sc n9).trans h.schn, by simpa using h.lch⟩
theorem run_close {w : World} {r : Nat} (h : w.heap[r]? = some (.chan 0 #[] false 0 0 false)) (ats : Array TypeId) (ty : TypeId) : (Builtin.close_ ats ty #[.chan (some r)]).run Tryz.prog w = .ok (.tuple #[]) (w.putObj r (.chan 0 #[] true 0 0 false)) := Go.run_close_open ats ty h
theorem mkChan47 (w : World) : (Instr.makeChan 47 (.int .i64 0)).run Tryz.prog w = .ok (.chan (some w.heap.size)) (w.alloc (.chan 0 #[] false 0 0 false)) := by kernel_rfl
end
end Go.Proofs.YtomcobcmjocapaaGreatDoor
