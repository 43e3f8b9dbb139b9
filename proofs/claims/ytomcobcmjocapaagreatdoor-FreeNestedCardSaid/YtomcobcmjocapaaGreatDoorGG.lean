/- one, of the two functions of works. -/
import Derived.Test.YtomcobcmjocapaaGreatDoorFF
import Derived.Test.YtomcobcmjocapaaGreatDoorAA
namespace Go.Proofs.YtomcobcmjocapaaGreatDoor
open Go.RowKit Go.MuLone
theorem TxR.redo {w w' : World} {lo b m : Nat} {I : TI} {sn e ov : Int} {R : List (Int × Int)} {D D' : Option (Int × Int)} (h : TxR w lo b m I sn R D e ov) {vD' vP' vK' : Value} (hr : RedoR w' lo I.ro I.tb I.sg vD' vP' vK' D') (hf : vD'.ownBlock = I.vD.ownBlock ∨ ∃ g, vD'.ownBlock = some g ∧ w.heap.size ≤ g)
    (hx : Ex w w' (RedS I.ro I.tb I.sg I.vD I.vP I.vK)) : TxR w' lo b m { I with vD := vD', vP := vP', vK := vK' } sn R D' e ov := by
  refine ⟨h.blk.kept (hx.block b h.blk.lt.2 fun hk => h.neB (.inr hk) rfl), h.rds.kept fun k hk => hx.block k (h.rds.lt hk).2 fun h2 => h.neR h2 hk, hr, fun k hk => ?_⟩
  rcases hf with hf | ⟨g, hg, hl⟩
  · rw [hf]; exact h.apart k hk
  · intro e2
    have h1 : g = k := by
      have := hg.symm.trans e2
      injection this
    have := (World.ownsRow.lt h.rds.row k hk).2
    omega
section
variable {lo0 lo m b cb g sc ch : Nat} {ws : List Int} {ck st od sn : Int} {sb : Bool} {R : List (Int × Int)} {I : TI}
set_option maxRecDepth 100000 in
set_option maxHeartbeats 6400000 in
theorem oneTwo (w : World) (hm : MemR w lo0 m cb g sc ch ws ck st od sb) (h : TxR w lo b m I sn R none 0 0) (hl : Lies lo m cb g sc) (hd : Deb w) (h1 : 1 < lo) (hwl : ws.length ≤ 65536) (ha : 1 < ws.length) (ab c : Nat) (hab : ab < lo)
    (hf0 : w.cell? ⟨ab, 0, none⟩ = some (.func (.func 16) #[] #[])) (hf1 : w.cell? ⟨ab, 1, none⟩ = some (.func (.func 17) #[] #[])) :
    Calls Tryz.prog 30 #[.pointer (some ⟨b, 0, none⟩), .slice (some ⟨ab, 0, none⟩) 2 c] w fun e w' => e = .returned (.int .i64 0) ∧ ∃ I', TxR w' lo b m I' sn R (some (((1 : Nat) : Int), 8)) 0 1 ∧ MemR w' lo0 m cb g sc ch ws ck st od sb ∧ Below lo w w' := by
  have c3 : w.cell? ⟨b, 3, none⟩ = some (.pointer (some ⟨I.ro, 0, none⟩)) := (h.c (i := 3) (by omega)).1
  have HMK := Lib.hid (redoMark w h.red)
  have HF := Lib.hid (blk16 w hm h hd hwl (by omega))
  unfold IV at HF
  have hn : ∀ fn W, (binOp .eql 38 (.func (.func fn) #[] #[]) .nilFunc).run Tryz.prog W = .ok (.bool false) W := fun fn W => by kernel_rfl
  have HM := Lib.hid hm
  have HT := Lib.hid h
  have HD := Lib.hid hd
  have HF1 := Lib.hid hf1
  clear hm h hd
  go_enter_defers Tryz.func30, Tryz.ntmps30
  go_wp2
  refine wp_loop_rounds 2 ?_
  rw [rounds_succ]
  go_wp2_with (go_at_call 41; refine halt_ ?_)
  refine Halt_.go ?_
  refine HMK.out.mono ?_
  rintro e w1 ⟨rfl, rfl⟩
  clear HMK
  go_wp2_with (go_at_call 16; refine halt_ ?_)
  refine Halt_.go ?_
  refine HF.out.mono ?_
  rintro e w2 ⟨rfl, I2, ht2, hx2⟩
  have hb2 := HT.out.blw hx2
  have hm2 := HM.out.tx hl HT.out hx2
  have d3 : w2.cell? ⟨b, 3, none⟩ = some (.pointer (some ⟨I2.ro, 0, none⟩)) := (ht2.c (i := 3) (by omega)).1
  have d4 : w2.cell? ⟨b, 4, none⟩ = some (.int .i64 0) := (ht2.c (i := 4) (by omega)).1
  have HBK := Lib.hid (redoBack0 w2 7 ht2.red (HD.out.below hb2 h1) h1)
  have HT2 := Lib.hid ht2
  have HM2 := Lib.hid hm2
  have HB2 := Lib.hid hb2
  clear ht2 hx2 hb2 hm2 HF HT HM c3 hf0
  go_wp2_with (go_at_call 42; refine halt_ ?_)
  refine Halt_.go ?_
  refine HBK.out.mono ?_
  rintro e w3 ⟨rfl, vD', vP', vK', hr3, hfr, hp3, hk3, hx3⟩
  have ht3 := HT2.out.redo hr3 (.inr hfr) hx3
  have hx3' : Ex w2 w3 (TxS b I2) := hx3.grow fun k hk => .inr (.inr hk)
  have hb3 := HB2.out.trans (HT2.out.blw hx3')
  have hm3 := HM2.out.tx hl HT2.out hx3'
  have hd3 := HD.out.below hb3 h1
  obtain ⟨I3, hI3⟩ : ∃ I3 : TI, I3 = { I2 with vD := vD', vP := vP', vK := vK' } := ⟨_, rfl⟩
  rw [← hI3] at ht3
  have c3 : w3.cell? ⟨b, 3, none⟩ = some (.pointer (some ⟨I3.ro, 0, none⟩)) := (ht3.c (i := 3) (by omega)).1
  have g1 : w3.cell? ⟨ab, 1, none⟩ = some (.func (.func 17) #[] #[]) := (hb3.cell (p := ⟨ab, 1, none⟩) hab).trans HF1.out
  have HMK := Lib.hid (redoMark w3 ht3.red)
  have HF := Lib.hid (blk17 w3 hm3 ht3 hd3 hwl ha)
  unfold IV at HF
  have HT3 := Lib.hid ht3
  have HM3 := Lib.hid hm3
  have HB3 := Lib.hid hb3
  clear hr3 hfr hp3 hk3 hx3 hx3' hb3 hm3 hd3 hI3 ht3 HBK HT2 HM2 HB2 d3 d4 HD HF1 hf1
  go_wp2
  rw [rounds_succ]
  go_wp2_with (go_at_call 41; refine halt_ ?_)
  refine Halt_.go ?_
  refine HMK.out.mono ?_
  rintro e w4 ⟨rfl, rfl⟩
  clear HMK
  go_wp2_with (go_at_call 17; refine halt_ ?_)
  refine Halt_.go ?_
  refine HF.out.mono ?_
  rintro e w5 ⟨rfl, I5, ht5, hx5⟩
  have hb5 := HB3.out.trans (HT3.out.blw hx5)
  have hm5 := HM3.out.tx hl HT3.out hx5
  have d4 : w5.cell? ⟨b, 4, none⟩ = some (.int .i64 0) := (ht5.c (i := 4) (by omega)).1
  obtain ⟨d5, z5⟩ := ht5.c (i := 5) (by omega)
  have HSD := Lib.hid (boolStoreD ⟨b, 5, none⟩ _ .returning w5 d5 z5)
  have HT5 := Lib.hid ht5
  have HM5 := Lib.hid hm5
  have HB5 := Lib.hid hb5
  clear ht5 hx5 hb5 hm5 HF HT3 HM3 HB3 c3 g1 d5 z5
  go_wp2
  refine leaves_cons (f := 40) (args := #[.pointer (some ⟨b, 5, none⟩), .bool true]) (by simp) (by simp [go_sem]) ?_
  refine (HSD.out).mono ?_
  rintro e' u' w6 ⟨rfl, rfl, hw6⟩
  have hx6 : Ex w5 w6 (TxS b I5) := by rw [hw6]; exact ((Ex.refl _ _).set _ _ fun _ => .inl rfl).drew
  exact ⟨_, results_tmp rfl _ _ _, rfl, I5, by rw [hw6]; exact (HT5.out.setOv 1).drewN 1, HM5.out.tx hl HT5.out hx6, HB5.out.trans (HT5.out.blw hx6)⟩
end
end Go.Proofs.YtomcobcmjocapaaGreatDoor
