/- A block's tx: its state; Get, Put. -/
import Derived.Test.YtomcobcmjocapaaGreatDoorM
namespace Go.Proofs.YtomcobcmjocapaaGreatDoor
open Go.RowKit Go.MuLone
/-- where a tx's parts lie -/
structure TI where
  rd : Nat
  ro : Nat
  tb : Nat
  sg : Nat
  vR : Value
  vD : Value
  vP : Value
  vK : Value
def txF (m : Nat) (I : TI) (sn e ov : Int) (i : Nat) : Value :=
  if i = 0 then .pointer (some ⟨m, 0, none⟩) else if i = 1 then .int .u64 sn else if i = 2 then .pointer (some ⟨I.rd, 0, none⟩) else if i = 3 then .pointer (some ⟨I.ro, 0, none⟩) else if i = 4 then .int .i64 e else .int .u32 ov
/-- a tx: its struct in block b; the snapshot, what was got, what is to be put, its error, is it over -/
structure TxR (w : World) (lo b m : Nat) (I : TI) (sn : Int) (R : List (Int × Int)) (D : Option (Int × Int)) (e ov : Int) : Prop where
  blk : Blk w lo 78 b 6 (txF m I sn e ov)
  rds : ReadsR w lo I.rd I.vR R
  red : RedoR w lo I.ro I.tb I.sg I.vD I.vP I.vK D
  apart : ∀ k, I.vR.ownBlock = some k → I.vD.ownBlock ≠ some k
/-- the blocks of a tx -/
def TxS (b : Nat) (I : TI) (k : Nat) : Prop := k = b ∨ (k = I.rd ∨ I.vR.ownBlock = some k) ∨ RedS I.ro I.tb I.sg I.vD I.vP I.vK k
section
variable {w w' : World} {lo b m : Nat} {I : TI} {sn e ov : Int} {R : List (Int × Int)} {D : Option (Int × Int)}
theorem TxR.c (h : TxR w lo b m I sn R D e ov) {i : Nat} (hi : i < 6) : w.cell? ⟨b, i, none⟩ = some (txF m I sn e ov i) ∧ w.frozen? ⟨b, i, none⟩ = false := h.blk.cell hi
theorem TxR.lt (h : TxR w lo b m I sn R D e ov) {k : Nat} (hk : TxS b I k) : lo ≤ k ∧ k < w.heap.size := by
  rcases hk with rfl | hk | hk
  · exact h.blk.lt
  · exact h.rds.lt hk
  · exact h.red.lt hk
theorem TxR.kept (h : TxR w lo b m I sn R D e ov) (hk : ∀ k, TxS b I k → w'.heap[k]? = w.heap[k]?) : TxR w' lo b m I sn R D e ov :=
  ⟨h.blk.kept (hk _ (.inl rfl)), h.rds.kept fun k e => hk k (.inr (.inl e)), h.red.kept fun k e => hk k (.inr (.inr e)), h.apart⟩
theorem TxR.ex {S : Nat → Prop} (h : TxR w lo b m I sn R D e ov) (hx : Ex w w' S) (hs : ∀ k, TxS b I k → ¬ S k) : TxR w' lo b m I sn R D e ov := h.kept fun k hk => hx.block k (h.lt hk).2 (hs k hk)
theorem own_cellsB {E s n : Nat} {v : Value} {xs : List Value} {w : World} {lo : Nat} (h : w.ownsRow lo E s v n xs) {k : Nat} (hk : v.ownBlock = some k) : ∃ cs fr, w.heap[k]? = some (.cells cs E fr) := by
  rcases (show _ ∨ _ from h.2) with ⟨rfl, _⟩ | ⟨g0, cap', cur, rfl, hbg, hh, h3⟩
  · cases hk
  · obtain rfl : g0 = k := by injection hk
    exact ⟨_, _, hh⟩
/-- a tx's blocks are cells -/
theorem TxR.cells (h : TxR w lo b m I sn R D e ov) {k : Nat} (hk : TxS b I k) : ∃ cs E fr, w.heap[k]? = some (.cells cs E fr) := by
  have one : ∀ {t b' n : Nat} {f : Nat → Value}, Blk w lo t b' n f → ∃ cs E fr, w.heap[b']? = some (.cells cs E fr) := fun {t b' n f} hb => by
    obtain ⟨cs, fr, hh⟩ := own_cellsB (k := b') (show w.ownsRow lo t n (.slice (some ⟨b', 0, none⟩) 1 1) 1 _ from hb) rfl
    exact ⟨cs, t, fr, hh⟩
  rcases hk with rfl | (rfl | hk) | (rfl | rfl | rfl | hk | hk | hk)
  · exact one h.blk
  · exact one h.rds.blk
  · obtain ⟨cs, fr, hh⟩ := own_cellsB h.rds.row hk; exact ⟨cs, _, fr, hh⟩
  · exact one h.red.blk
  · exact one h.red.tab.blk
  · obtain ⟨cs, fr, hh⟩ := own_cellsB h.red.tab.row (k := I.sg) rfl; exact ⟨cs, _, fr, hh⟩
  · obtain ⟨cs, fr, hh⟩ := own_cellsB h.red.row hk; exact ⟨cs, _, fr, hh⟩
  · obtain ⟨cs, fr, hh⟩ := own_cellsB h.red.past hk; exact ⟨cs, _, fr, hh⟩
  · obtain ⟨cs, fr, hh⟩ := own_cellsB h.red.tab.keys hk; exact ⟨cs, _, fr, hh⟩
/-- a memory lies ahead of lo, but for its channel -/
theorem MemR.ex {lo0 cb g sc ch : Nat} {ws : List Int} {ck st od : Int} {sb : Bool} {S : Nat → Prop} (h : MemR w lo0 m cb g sc ch ws ck st od sb) (hx : Ex w w' S) (h1 : ¬ S m) (h2 : ¬ S cb) (h3 : ¬ S g) (h4 : ¬ S sc) (h5 : ¬ S ch) : MemR w' lo0 m cb g sc ch ws ck st od sb := by
  have hl := h.cel.lt
  have hsz := hx.size
  exact ⟨h.blk.kept (hx.block m h.blk.lt.2 h1), h.cel.kept (hx.block cb hl.2.1 h2) (hx.block g hl.2.2.2 h3), (hx.block ch h.lch.2.1 h5).trans h.chn, (hx.block sc h.lch.2.2.2.1 h4).trans h.schn, ⟨h.lch.1, by have := h.lch; omega, h.lch.2.2.1, by have := h.lch; omega, h.lch.2.2.2.2⟩⟩
/-- how a memory lies to a tx's base -/
def Lies (lo m cb g sc : Nat) : Prop := m < lo ∧ cb < lo ∧ g < lo ∧ sc < lo
theorem MemR.tx {lo0 cb g sc ch : Nat} {ws : List Int} {ck st od : Int} {sb : Bool} (h : MemR w lo0 m cb g sc ch ws ck st od sb) (hl : Lies lo m cb g sc) (ht : TxR w lo b m I sn R D e ov) (hx : Ex w w' (TxS b I)) : MemR w' lo0 m cb g sc ch ws ck st od sb := by
  obtain ⟨l1, l2, l3, l4⟩ := hl
  refine h.ex hx (fun k => ?_) (fun k => ?_) (fun k => ?_) (fun k => ?_) (fun k => ?_)
  · have := (ht.lt k).1; omega
  · have := (ht.lt k).1; omega
  · have := (ht.lt k).1; omega
  · have := (ht.lt k).1; omega
  · obtain ⟨cs, E, fr, hh⟩ := ht.cells k
    rw [h.chn] at hh
    cases hh
section
variable {lo0 cb g sc ch : Nat} {ws : List Int} {ck st od : Int} {sb : Bool}
set_option maxRecDepth 100000 in
set_option maxHeartbeats 1600000 in
/-- what a call must answer: the tx's error, if its address is in -/
theorem txStands (w : World) (hm : MemR w lo0 m cb g sc ch ws ck st od sb) (h : TxR w lo b m I sn R D e 0) (hwl : ws.length ≤ 65536) (a : Nat) (ha : a < ws.length) :
    Calls Tryz.prog 114 #[.pointer (some ⟨b, 0, none⟩), .int .u64 a] w fun e' w' => e' = .returned (.int .i64 e) ∧ w' = w := by
  have HB := Lib.hid (boolLoad w (h.c (i := 5) (by omega)).1)
  have HL := Lib.hid (celLen w hm.cel)
  have c0 : w.cell? ⟨b, 0, none⟩ = some (.pointer (some ⟨m, 0, none⟩)) := (h.c (i := 0) (by omega)).1
  have c4 : w.cell? ⟨b, 4, none⟩ = some (.int .i64 e) := (h.c (i := 4) (by omega)).1
  have m0 : w.cell? ⟨m, 0, none⟩ = some (.pointer (some ⟨cb, 0, none⟩)) := (hm.c (i := 0) (by omega)).1
  have i1 : (a : Int) < (ws.length : Int) := by omega
  have i3 : IntKind.u64.wrap (ws.length : Int) = (ws.length : Int) := by simp [IntKind.wrap_u64]; omega
  clear hm h
  by_cases he : e = 0
  · subst he
    go_enter Tryz.func114, Tryz.ntmps114
    go_wp2_with (go_at_call 35; refine halt_ ?_)
    refine Halt_.go ?_
    refine HB.out.mono ?_
    rintro e' w' ⟨rfl, rfl⟩
    go_wp2_with (go_at_call 20; refine halt_ ?_)
    refine Halt_.go ?_
    refine HL.out.mono ?_
    rintro e' w' ⟨rfl, rfl⟩
    go_wp2
    go_ret
    exact ⟨rfl, rfl⟩
  · have he1 : (e == 0) = false := by simpa using he
    have HE := Lib.hid he
    clear he
    go_enter Tryz.func114, Tryz.ntmps114
    go_wp2_with (go_at_call 35; refine halt_ ?_)
    refine Halt_.go ?_
    refine HB.out.mono ?_
    rintro e' w' ⟨rfl, rfl⟩
    go_wp2
    go_ret
    exact ⟨rfl, rfl⟩
end
end
end Go.Proofs.YtomcobcmjocapaaGreatDoor
