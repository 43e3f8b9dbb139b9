/- A block's tx: Get, Put. -/
import Derived.Test.YtomcobcmjocapaaGreatDoorO
namespace Go.Proofs.YtomcobcmjocapaaGreatDoor
open Go.RowKit Go.MuLone
section
variable {w w' : World} {lo b m : Nat} {I : TI} {sn e ov : Int} {R : List (Int × Int)} {D : Option (Int × Int)}
theorem TxR.neR (h : TxR w lo b m I sn R D e ov) {k : Nat} (hk : RedS I.ro I.tb I.sg I.vD I.vP I.vK k) : ¬ (k = I.rd ∨ I.vR.ownBlock = some k) := by
  have hrd : w.ownsRow lo 112 3 (.slice (some ⟨I.rd, 0, none⟩) 1 1) 1 _ := h.rds.blk
  have hro : w.ownsRow lo 117 5 (.slice (some ⟨I.ro, 0, none⟩) 1 1) 1 _ := h.red.blk
  have htb : w.ownsRow lo 134 2 (.slice (some ⟨I.tb, 0, none⟩) 1 1) 1 _ := h.red.tab.blk
  rintro (e1 | e1)
  · subst e1
    rcases hk with hk | hk | hk | hk | hk | hk
    · exact own_apart hrd hro (by decide) rfl (by rw [hk]; rfl)
    · exact own_apart hrd htb (by decide) rfl (by rw [hk]; rfl)
    · exact own_apart hrd h.red.tab.row (by decide) rfl (by rw [hk]; rfl)
    · exact own_apart hrd h.red.row (by decide) rfl hk
    · exact own_apart hrd h.red.past (by decide) rfl hk
    · exact own_apart hrd h.red.tab.keys (by decide) rfl hk
  · rcases hk with hk | hk | hk | hk | hk | hk
    · exact own_apart h.rds.row hro (by decide) e1 (by rw [hk]; rfl)
    · exact own_apart h.rds.row htb (by decide) e1 (by rw [hk]; rfl)
    · exact own_apart h.rds.row h.red.tab.row (by decide) e1 (by rw [hk]; rfl)
    · exact h.apart k e1 hk
    · exact own_apart h.rds.row h.red.past (by decide) e1 hk
    · exact own_apart h.rds.row h.red.tab.keys (by decide) e1 hk
/-- an entry is laid behind what was got -/
theorem TxR.add (h : TxR w lo b m I sn R D e ov) {vR' : Value} {R' : List (Int × Int)} (hr : ReadsR w' lo I.rd vR' R') (hf : vR'.ownBlock = I.vR.ownBlock ∨ ∃ g, vR'.ownBlock = some g ∧ w.heap.size ≤ g)
    (hx : Ex w w' (fun k => k = I.rd ∨ I.vR.ownBlock = some k)) : TxR w' lo b m { I with vR := vR' } sn R' D e ov := by
  refine ⟨h.blk.kept (hx.block b h.blk.lt.2 fun hk => h.neB (.inl hk) rfl), hr, h.red.kept fun k hk => hx.block k (h.red.lt hk).2 (h.neR hk), fun k hk => ?_⟩
  rcases hf with hf | ⟨g, hg, hl⟩
  · exact h.apart k (by rw [← hf]; exact hk)
  · intro e2
    have h1 : g = k := by
      have := hg.symm.trans hk
      injection this
    have := (World.ownsRow.lt h.red.row k e2).2
    omega
/-- a word is put -/
theorem TxR.put (h : TxR w lo b m I sn R none e ov) {vD' vP' vK' : Value} {p : Int × Int} (hr : RedoR w' lo I.ro I.tb I.sg vD' vP' vK' (some p)) (hf : vD'.ownBlock = I.vD.ownBlock ∨ ∃ g, vD'.ownBlock = some g ∧ w.heap.size ≤ g)
    (hx : Ex w w' (RedS I.ro I.tb I.sg I.vD I.vP I.vK)) : TxR w' lo b m { I with vD := vD', vP := vP', vK := vK' } sn R (some p) e ov := by
  refine ⟨h.blk.kept (hx.block b h.blk.lt.2 fun hk => h.neB (.inr hk) rfl), h.rds.kept fun k hk => hx.block k (h.rds.lt hk).2 fun h2 => h.neR h2 hk, hr, fun k hk => ?_⟩
  rcases hf with hf | ⟨g, hg, hl⟩
  · rw [hf]; exact h.apart k hk
  · intro e2
    have h1 : g = k := by
      have := hg.symm.trans e2
      injection this
    have := (World.ownsRow.lt h.rds.row k hk).2
    omega
section
variable {lo0 cb g sc ch : Nat} {ws : List Int} {ck st od : Int} {sb : Bool}
set_option maxRecDepth 100000 in
set_option maxHeartbeats 3200000 in
theorem txGetErr (w : World) (hm : MemR w lo0 m cb g sc ch ws ck st od sb) (h : TxR w lo b m I sn R D e 0) (hwl : ws.length ≤ 65536) (a : Nat) (ha : a < ws.length) (he : e ≠ 0) :
    Calls Tryz.prog 112 #[.pointer (some ⟨b, 0, none⟩), .int .u64 a] w fun e' w' => e' = .returned (.tuple #[.int .u64 0, .int .i64 e]) ∧ w' = w := by
  have HS := Lib.hid (txStands w hm h hwl a ha)
  have he1 : (e != 0) = true := by simpa using he
  clear hm h he
  go_enter Tryz.func112, Tryz.ntmps112
  go_wp2_with (go_at_call 114; refine halt_ ?_)
  refine Halt_.go ?_
  refine HS.out.mono ?_
  rintro e' w' ⟨rfl, rfl⟩
  go_wp2
  go_ret2
  exact ⟨rfl, rfl⟩
set_option maxRecDepth 100000 in
set_option maxHeartbeats 3200000 in
theorem txPutErr (w : World) (hm : MemR w lo0 m cb g sc ch ws ck st od sb) (h : TxR w lo b m I sn R D e 0) (hwl : ws.length ≤ 65536) (a : Nat) (x : Int) (ha : a < ws.length) (he : e ≠ 0) :
    Calls Tryz.prog 113 #[.pointer (some ⟨b, 0, none⟩), .int .u64 a, .int .u64 x] w fun e' w' => e' = .returned (.int .i64 e) ∧ w' = w := by
  have HS := Lib.hid (txStands w hm h hwl a ha)
  have he1 : (e != 0) = true := by simpa using he
  clear hm h he
  go_enter Tryz.func113, Tryz.ntmps113
  go_wp2_with (go_at_call 114; refine halt_ ?_)
  refine Halt_.go ?_
  refine HS.out.mono ?_
  rintro e' w' ⟨rfl, rfl⟩
  go_wp2
  go_ret
  exact ⟨rfl, rfl⟩
set_option maxRecDepth 100000 in
set_option maxHeartbeats 3200000 in
theorem txPut (w : World) (hm : MemR w lo0 m cb g sc ch ws ck st od sb) (h : TxR w lo b m I sn R none 0 0) (hd : Deb w) (hwl : ws.length ≤ 65536) (a : Nat) (x : Int) (ha : a < ws.length) :
    Calls Tryz.prog 113 #[.pointer (some ⟨b, 0, none⟩), .int .u64 a, .int .u64 x] w fun e' w' => e' = .returned (.int .i64 0) ∧ ∃ I', TxR w' lo b m I' sn R (some ((a : Int), x)) 0 0 ∧ Ex w w' (TxS b I) := by
  have HS := Lib.hid (txStands w hm h hwl a ha)
  have HP := Lib.hid (redoPut w h.red hd a x)
  have c3 : w.cell? ⟨b, 3, none⟩ = some (.pointer (some ⟨I.ro, 0, none⟩)) := (h.c (i := 3) (by omega)).1
  have HH := Lib.hid h
  clear hm h
  go_enter Tryz.func113, Tryz.ntmps113
  go_wp2_with (go_at_call 114; refine halt_ ?_)
  refine Halt_.go ?_
  refine HS.out.mono ?_
  rintro e' w1 ⟨rfl, rfl⟩
  go_wp2_with (go_at_call 119; refine halt_ ?_)
  refine Halt_.go ?_
  refine HP.out.mono ?_
  rintro e' w2 ⟨rfl, vD', vP', vK', hr, hf, hx⟩
  have HT := Lib.hid (HH.out.put hr hf hx)
  have HX : Hid (Ex w1 w2 (TxS b I)) := hx.grow fun k hk => .inr (.inr hk)
  clear hr hf hx HP HS c3
  go_wp2
  go_ret
  exact ⟨rfl, _, HT.out, HX.out⟩
end
end
end Go.Proofs.YtomcobcmjocapaaGreatDoor
