/- Either, of works' two functions. -/
import Derived.Test.YtomcobcmjocapaaGreatDoorGG
import Derived.Test.YtomcobcmjocapaaGreatDoorCC
namespace Go.Proofs.YtomcobcmjocapaaGreatDoor
open Go.RowKit Go.MuLone
section
variable {lo0 m cb g sc ch : Nat} {ws : List Int} {ck od : Int} {sb : Bool}
set_option maxRecDepth 100000 in
set_option maxHeartbeats 6400000 in
theorem eitherTwo (w : World) (hm : MemR w lo0 m cb g sc ch ws ck 0 od sb) (hd : Deb w) (h1 : 1 < w.heap.size) (hwl : ws.length ≤ 65536) (hev : ck = 0 ∨ ck = 2) (ha : 1 < ws.length) (ab c : Nat)
    (hf0 : w.cell? ⟨ab, 0, none⟩ = some (.func (.func 16) #[] #[])) (hf1 : w.cell? ⟨ab, 1, none⟩ = some (.func (.func 17) #[] #[])) :
    Calls Tryz.prog 15 #[.pointer (some ⟨m, 0, none⟩), .slice (some ⟨ab, 0, none⟩) 2 c] w fun e w' => e = .returned (.tuple #[.int .u64 (ck / 2 + 1), .int .i64 0]) ∧ ∃ ch', MemR w' lo0 m cb g sc ch' (ws.set 1 8) (ck + 2) 0 od sb ∧ Ex w w' (fun k => k = m ∨ k = g ∨ k = ch) := by
  have HN := Lib.hid (memNone w hm)
  have HI := Lib.hid (isSet w (hm.c (i := 2) (by omega)).1)
  have HB := Lib.hid (txBegin w hm (by omega))
  have HM := Lib.hid hm
  have hab : ab < w.heap.size := World.block_lt_of_cell? w ⟨ab, 0, none⟩ hf0
  have HF0 := Lib.hid hf0
  have HF1 := Lib.hid hf1
  have HD := Lib.hid hd
  clear hm hf0 hf1 hd
  go_enter Tryz.func15, Tryz.ntmps15
  go_wp2_with (go_at_call 19; refine halt_ ?_)
  refine Halt_.go ?_
  refine HN.out.mono ?_
  rintro e w0 ⟨rfl, rfl⟩
  go_wp2_with (go_at_call 28; refine halt_ ?_)
  refine Halt_.go ?_
  refine HI.out.mono ?_
  rintro e w0 ⟨rfl, rfl⟩
  clear HN HI
  have hLies : Lies w0.heap.size m cb g sc := ⟨HM.out.blk.lt.2, HM.out.cel.lt.2.1, HM.out.cel.lt.2.2.2, HM.out.lch.2.2.2.1⟩
  have hsch := HM.out.lch.2.1
  go_wp2
  refine wp_loop_once ?_
  go_wp2_with (go_at_call 29; refine halt_ ?_)
  refine Halt_.go ?_
  refine HB.out.mono ?_
  rintro e w1 ⟨I, rfl, ht1, hb1⟩
  have hm1 := HM.out.ex (Ex.of_below hb1) (S := fun _ => False) id id id id id
  have HO := Lib.hid (oneTwo w1 hm1 ht1 hLies (HD.out.below hb1 h1) h1 hwl ha ab c hab ((hb1.cell (p := ⟨ab, 0, none⟩) hab).trans HF0.out) ((hb1.cell (p := ⟨ab, 1, none⟩) hab).trans HF1.out))
  have HB1 := Lib.hid hb1
  clear ht1 hb1 hm1 HF0 HF1 HB HD
  go_wp2_with (go_at_call 30; refine halt_ ?_)
  refine Halt_.go ?_
  refine HO.out.mono ?_
  rintro e w3 ⟨rfl, I', ht3, hm3, hb13⟩
  have hb3 := HB1.out.trans hb13
  have HC := Lib.hid (txCommit w3 1 8 hm3 ht3 hLies hwl (by simp) (by simp) (by omega) ha)
  have c4 : w3.cell? ⟨w0.heap.size, 4, none⟩ = some (.int .i64 0) := (ht3.c (i := 4) (by omega)).1
  have HT3 := Lib.hid ht3
  have HB3 := Lib.hid hb3
  clear hb13 ht3 hm3 hb3 HO
  go_wp2_with (go_at_call 31; refine halt_ ?_)
  refine Halt_.go ?_
  refine HC.out.mono ?_
  rintro e w4 hc
  rcases hc with ⟨hne, hoth, _⟩ | ⟨_, rfl, ch', hm4, hx4⟩
  · exact absurd rfl hne
  have HM4 := Lib.hid hm4
  have HX4 := Lib.hid hx4
  clear hm4 hx4 HC c4
  go_wp2
  go_ret2
  refine ⟨rfl, ch', HM4.out, ?_⟩
  have h3 := HB3.out
  have h4 := HX4.out
  refine ⟨h4.os.trans h3.os, h4.tape.trans h3.tape, h4.output.trans h3.output, Nat.le_trans h3.size h4.size, fun k hk hs => (h4.block k (Nat.lt_of_lt_of_le hk h3.size) ?_).trans (h3.block k hk)⟩
  rintro (h | h)
  · have := (HT3.out.lt h).1; omega
  · exact hs h
end
end Go.Proofs.YtomcobcmjocapaaGreatDoor
