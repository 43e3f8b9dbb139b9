/- A block's tx: refuse, valid. -/
import Derived.Test.YtomcobcmjocapaaGreatDoorN
namespace Go.Proofs.YtomcobcmjocapaaGreatDoor
open Go.RowKit Go.MuLone
theorem Ex.of_below {a b : World} {S : Nat → Prop} (h : Below a.heap.size a b) : Ex a b S := ⟨h.os, h.tape, h.output, h.size, fun k hk _ => h.block k hk⟩
section
variable {w w' : World} {lo b m : Nat} {I : TI} {sn e ov : Int} {R : List (Int × Int)} {D : Option (Int × Int)}
theorem TxR.neB (h : TxR w lo b m I sn R D e ov) {k : Nat} (hk : (k = I.rd ∨ I.vR.ownBlock = some k) ∨ RedS I.ro I.tb I.sg I.vD I.vP I.vK k) : k ≠ b := by
  intro e
  subst e
  have hb : w.ownsRow lo 78 6 (.slice (some ⟨k, 0, none⟩) 1 1) 1 _ := h.blk
  rcases hk with (hk | hk) | (hk | hk | hk | hk | hk | hk)
  · exact own_apart hb (show w.ownsRow lo 112 3 (.slice (some ⟨I.rd, 0, none⟩) 1 1) 1 _ from h.rds.blk) (by decide) rfl (by rw [hk]; rfl)
  · exact own_apart hb h.rds.row (by decide) rfl hk
  · exact own_apart hb (show w.ownsRow lo 117 5 (.slice (some ⟨I.ro, 0, none⟩) 1 1) 1 _ from h.red.blk) (by decide) rfl (by rw [hk]; rfl)
  · exact own_apart hb (show w.ownsRow lo 134 2 (.slice (some ⟨I.tb, 0, none⟩) 1 1) 1 _ from h.red.tab.blk) (by decide) rfl (by rw [hk]; rfl)
  · exact own_apart hb h.red.tab.row (by decide) rfl (by rw [hk]; rfl)
  · exact own_apart hb h.red.row (by decide) rfl hk
  · exact own_apart hb h.red.past (by decide) rfl hk
  · exact own_apart hb h.red.tab.keys (by decide) rfl hk
/-- a cell of the tx's struct is set -/
theorem TxR.set (h : TxR w lo b m I sn R D e ov) (j : Nat) (v : Value) (sn' e' ov' : Int) (hf : ∀ i, i < 6 → (if i = j then v else txF m I sn e ov i) = txF m I sn' e' ov' i) : TxR (w.setCell ⟨b, j, none⟩ v) lo b m I sn' R D e' ov' := by
  have hset : ∀ k, k ≠ b → (w.setCell ⟨b, j, none⟩ v).heap[k]? = w.heap[k]? := fun k hk => Below.heap_setCell w ⟨b, j, none⟩ v k hk
  exact ⟨(h.blk.set j v).congr hf, h.rds.kept fun k hk => hset k (h.neB (.inl hk)), h.red.kept fun k hk => hset k (h.neB (.inr hk)), h.apart⟩
theorem TxR.setSn (h : TxR w lo b m I sn R D e ov) (x : Int) : TxR (w.setCell ⟨b, 1, none⟩ (.int .u64 x)) lo b m I x R D e ov := h.set 1 _ x e ov fun i hi => by
  have : i = 0 ∨ i = 1 ∨ i = 2 ∨ i = 3 ∨ i = 4 ∨ i = 5 := by omega
  rcases this with rfl | rfl | rfl | rfl | rfl | rfl <;> rfl
theorem TxR.setE (h : TxR w lo b m I sn R D e ov) (x : Int) : TxR (w.setCell ⟨b, 4, none⟩ (.int .i64 x)) lo b m I sn R D x ov := h.set 4 _ sn x ov fun i hi => by
  have : i = 0 ∨ i = 1 ∨ i = 2 ∨ i = 3 ∨ i = 4 ∨ i = 5 := by omega
  rcases this with rfl | rfl | rfl | rfl | rfl | rfl <;> rfl
theorem TxR.setOv (h : TxR w lo b m I sn R D e ov) (x : Int) : TxR (w.setCell ⟨b, 5, none⟩ (.int .u32 x)) lo b m I sn R D e x := h.set 5 _ sn e x fun i hi => by
  have : i = 0 ∨ i = 1 ∨ i = 2 ∨ i = 3 ∨ i = 4 ∨ i = 5 := by omega
  rcases this with rfl | rfl | rfl | rfl | rfl | rfl <;> rfl
theorem txRefuse (w : World) (h : TxR w lo b m I sn R D e ov) (x : Int) :
    Calls Tryz.prog 115 #[.pointer (some ⟨b, 0, none⟩), .int .i64 x] w fun e' w' => e' = .returned (.int .i64 x) ∧ w' = w.setCell ⟨b, 4, none⟩ (.int .i64 x) := by
  obtain ⟨c4, z4⟩ := h.c (i := 4) (by omega)
  replace c4 : w.cell? ⟨b, 4, none⟩ = some (.int .i64 e) := c4
  go_enter Tryz.func115, Tryz.ntmps115
  go_wp2
  go_ret
  exact ⟨rfl, rfl⟩
section
variable {lo0 cb g sc ch : Nat} {ws : List Int} {ck st od : Int} {sb : Bool}
set_option maxRecDepth 100000 in
set_option maxHeartbeats 3200000 in
theorem txValid (w : World) (hm : MemR w lo0 m cb g sc ch ws ck st od sb) (h : TxR w lo b m I sn R D e ov) (hwl : ws.length ≤ 65536) (hRl : R.length ≤ 65536) (hR : ∀ p ∈ R, ∃ a : Nat, p.1 = a ∧ a < ws.length) (hev : ck = 0 ∨ ck = 2 ∨ ck = 4) :
    Calls Tryz.prog 45 #[.pointer (some ⟨b, 0, none⟩)] w fun e' w' => (othB R ws = true ∧ e' = .returned (.bool false) ∧ Below w.heap.size w w') ∨ (othB R ws = false ∧ e' = .returned (.bool true) ∧ TxR w' lo b m I ck R D e ov ∧ Ex w w' (fun k => k = b)) := by
  have c0 : w.cell? ⟨b, 0, none⟩ = some (.pointer (some ⟨m, 0, none⟩)) := (h.c (i := 0) (by omega)).1
  have c2 : w.cell? ⟨b, 2, none⟩ = some (.pointer (some ⟨I.rd, 0, none⟩)) := (h.c (i := 2) (by omega)).1
  have m0 : w.cell? ⟨m, 0, none⟩ = some (.pointer (some ⟨cb, 0, none⟩)) := (hm.c (i := 0) (by omega)).1
  have HO := Lib.hid (memOpen w hm hev)
  have HT := Lib.hid (otherwise_any w hm.cel m0 c0 c2 h.rds hR hwl hRl)
  have HM := Lib.hid hm
  have HX := Lib.hid h
  have hbl : b < w.heap.size := h.blk.lt.2
  have hml : m < w.heap.size := hm.blk.lt.2
  clear hm h hR
  obtain ⟨q, hq⟩ : ∃ q, q = othB R ws := ⟨_, rfl⟩
  rw [← hq] at HT ⊢
  clear hq
  go_enter Tryz.func45, Tryz.ntmps45
  go_wp2
  go_step3
  go_wp2
  go_step3
  go_wp2
  refine wp_loop_once ?_
  go_wp2_with (go_at_call 25; refine halt_ ?_)
  refine Halt_.go ?_
  refine HO.out.mono ?_
  rintro e' w1 ⟨rfl, rfl⟩
  go_wp2_with (go_at_call 51; refine halt_ ?_)
  refine Halt_.go ?_
  refine HT.out.mono ?_
  rintro e' w2 ⟨rfl, hb⟩
  have HB := Lib.hid hb
  have hx := Ex.refl w1 (fun k => w1.heap.size ≤ k)
  have d0 : w2.cell? ⟨b, 0, none⟩ = some (.pointer (some ⟨m, 0, none⟩)) := (hb.cell (p := ⟨b, 0, none⟩) hbl).trans c0
  have d1 : w2.cell? ⟨m, 1, none⟩ = some (.int .u64 ck) := (hb.cell (p := ⟨m, 1, none⟩) hml).trans (HM.out.c (i := 1) (by omega)).1
  have HL := Lib.hid (u64Load w2 d1)
  have ht2 : TxR w2 lo b m I sn R D e ov := HX.out.kept fun k hk => hb.block k (HX.out.lt hk).2
  obtain ⟨d3, z3⟩ := ht2.c (i := 1) (by omega)
  replace d3 : w2.cell? ⟨b, 1, none⟩ = some (.int .u64 sn) := d3
  have HT2 := Lib.hid ht2
  clear hb hx HT HO c0 c2 m0 d1 ht2
  cases q with
  | true =>
    go_wp2_with (go_at_call 27; refine halt_ ?_)
    refine Halt_.go ?_
    refine HL.out.mono ?_
    rintro e' w' ⟨rfl, rfl⟩
    go_wp2
    simp only [Exit.noGoto]
    go_ret
    exact .inl ⟨rfl, rfl, HB.out⟩
  | false =>
    go_wp2_with (go_at_call 27; refine halt_ ?_)
    refine Halt_.go ?_
    refine HL.out.mono ?_
    rintro e' w' ⟨rfl, rfl⟩
    go_wp2
    simp only [Exit.noGoto]
    go_ret
    exact .inr ⟨rfl, rfl, HT2.out.setSn ck, (Ex.of_below HB.out).set _ _ fun _ => rfl⟩
end
end
end Go.Proofs.YtomcobcmjocapaaGreatDoor
