/- Either, of one function whose block is committed at once. -/
import Derived.Test.YtomcobcmjocapaaGreatDoorAA
namespace Go.Proofs.YtomcobcmjocapaaGreatDoor
open Go.RowKit Go.MuLone
/-- what such a block leaves: a word to be put, nothing got that is otherwise -/
def BlkP (w : World) (lo0 lo b m cb g sc ch : Nat) (ws : List Int) (ck st od : Int) (sb : Bool) (a : Nat) (x : Int) (w' : World) : Prop :=
  ∃ I' sn' R', TxR w' lo b m I' sn' R' (some ((a : Int), x)) 0 0 ∧ MemR w' lo0 m cb g sc ch ws ck st od sb ∧ Below lo w w' ∧ (ck = sn' ∨ othB R' ws = false) ∧ R'.length < 1000 ∧ ∀ p ∈ R', ∃ a : Nat, p.1 = a ∧ a < ws.length
section
variable {lo0 m cb g sc ch : Nat} {ws : List Int} {ck od : Int} {sb : Bool}
set_option maxRecDepth 100000 in
set_option maxHeartbeats 6400000 in
theorem either14 (w : World) (hm : MemR w lo0 m cb g sc ch ws ck 0 od sb) (hwl : ws.length ≤ 65536) (hev : ck = 0 ∨ ck = 2) (a : Nat) (x : Int) (ha : a < ws.length) (ab c : Nat) (hf : w.cell? ⟨ab, 0, none⟩ = some (.func (.func 14) #[] #[]))
    (hF : ∀ w1 I, TxR w1 w.heap.size w.heap.size m I ck [] none 0 0 → MemR w1 lo0 m cb g sc ch ws ck 0 od sb → Below w.heap.size w w1 → Calls Tryz.prog 14 #[IV w.heap.size] w1 fun e w2 => e = .returned (.int .i64 0) ∧ BlkP w lo0 w.heap.size w.heap.size m cb g sc ch ws ck 0 od sb a x w2) :
    Calls Tryz.prog 15 #[.pointer (some ⟨m, 0, none⟩), .slice (some ⟨ab, 0, none⟩) 1 c] w fun e w' => e = .returned (.tuple #[.int .u64 (ck / 2 + 1), .int .i64 0]) ∧ ∃ ch', MemR w' lo0 m cb g sc ch' (ws.set a x) (ck + 2) 0 od sb ∧ Ex w w' (fun k => k = m ∨ k = g ∨ k = ch) := by
  have HN := Lib.hid (memNone w hm)
  have HI := Lib.hid (isSet w (hm.c (i := 2) (by omega)).1)
  have HB := Lib.hid (txBegin w hm (by omega))
  have HM := Lib.hid hm
  have HF := Lib.hid hF
  have hab : ab < w.heap.size := World.block_lt_of_cell? w ⟨ab, 0, none⟩ hf
  have hfl := Lib.hid hf
  clear hm hF hf
  go_enter Tryz.func15, Tryz.ntmps15
  go_wp2_with (go_at_call 19; refine halt_ ?_)
  refine Halt_.go ?_
  refine HN.out.mono ?_
  rintro e w0 ⟨rfl, rfl⟩
  go_wp2_with (go_at_call 28; refine halt_ ?_)
  refine Halt_.go ?_
  refine HI.out.mono ?_
  rintro e w0 ⟨rfl, rfl⟩
  clear HN HI
  have hLies : Lies w0.heap.size m cb g sc := ⟨HM.out.blk.lt.2, HM.out.cel.lt.2.1, HM.out.cel.lt.2.2.2, HM.out.lch.2.2.2.1⟩
  have hsch := HM.out.lch.2.1
  go_wp2
  refine wp_loop_once ?_
  go_wp2_with (go_at_call 29; refine halt_ ?_)
  refine Halt_.go ?_
  refine HB.out.mono ?_
  rintro e w1 ⟨I, rfl, ht1, hb1⟩
  have hm1 := HM.out.ex (Ex.of_below hb1) (S := fun _ => False) id id id id id
  have HO := Lib.hid (one14 w1 ht1  ab c ((hb1.cell (p := ⟨ab, 0, none⟩) hab).trans hfl.out) (fun r E w2 => r = 0 ∧ E = 0 ∧ BlkP w0 lo0 w0.heap.size w0.heap.size m cb g sc ch ws ck 0 od sb a x w2)
    ((HF.out w1 I ht1 hm1 hb1).mono (by rintro e w2 ⟨rfl, hp⟩; exact ⟨0, 0, rfl, rfl, rfl, hp⟩)) (by rintro r E w2 ⟨rfl, rfl, I', sn', R', ht, _⟩; exact ⟨_, _, _, _, _, ht⟩))
  have HB1 := Lib.hid hb1
  clear ht1 hb1 hm1 HF HB
  go_wp2_with (go_at_call 30; refine halt_ ?_)
  refine Halt_.go ?_
  refine HO.out.mono ?_
  rintro e w3 ⟨r, E, w2, ⟨rfl, rfl, I', sn', R', ht2, hm2, hb2, hv, hRl, hRb⟩, rfl, hw3⟩
  have hx3 : Ex w2 w3 (TxS w0.heap.size I') := by rw [hw3]; exact ((Ex.refl _ _).set _ _ fun _ => .inl rfl).drew
  have ht3 : TxR w3 w0.heap.size w0.heap.size m I' sn' R' (some ((a : Int), x)) 0 1 := by rw [hw3]; exact (ht2.setOv 1).drewN 1
  have hm3 := hm2.tx hLies ht2 hx3
  have hb3 := hb2.trans (ht2.blw hx3)
  have HC := Lib.hid (txCommit w3 a x hm3 ht3 hLies hwl hRl hRb hev ha)
  have c4 : w3.cell? ⟨w0.heap.size, 4, none⟩ = some (.int .i64 0) := (ht3.c (i := 4) (by omega)).1
  have HT3 := Lib.hid ht3
  have HB3 := Lib.hid hb3
  have HV := Lib.hid hv
  clear ht2 hm2 hb2 hv hRl hRb hw3 hx3 ht3 hm3 hb3 HO
  simp only [if_true]
  go_wp2_with (go_at_call 31; refine halt_ ?_)
  refine Halt_.go ?_
  refine HC.out.mono ?_
  rintro e w4 hc
  rcases hc with ⟨hne, hoth, _⟩ | ⟨_, rfl, ch', hm4, hx4⟩
  · exfalso
    rcases HV.out with h | h
    · exact hne h
    · rw [h] at hoth; cases hoth
  have HM4 := Lib.hid hm4
  have HX4 := Lib.hid hx4
  clear hm4 hx4 HC c4 HV
  go_wp2
  go_ret2
  refine ⟨rfl, ch', HM4.out, ?_⟩
  have h3 := HB3.out
  have h4 := HX4.out
  refine ⟨h4.os.trans h3.os, h4.tape.trans h3.tape, h4.output.trans h3.output, Nat.le_trans h3.size h4.size, fun k hk hs => (h4.block k (Nat.lt_of_lt_of_le hk h3.size) ?_).trans (h3.block k hk)⟩
  rintro (h | h)
  · have := (HT3.out.lt h).1; omega
  · exact hs h
set_option maxRecDepth 100000 in
set_option maxHeartbeats 6400000 in
theorem either21 (w : World) (hm : MemR w lo0 m cb g sc ch ws ck 0 od sb) (hwl : ws.length ≤ 65536) (hev : ck = 0 ∨ ck = 2) (a : Nat) (x : Int) (ha : a < ws.length) (p1 p2 : Nat) (ab c : Nat) (hf : w.cell? ⟨ab, 0, none⟩ = some (.func (.func 21) #[] #[.pointer (some ⟨p1, 0, none⟩), .pointer (some ⟨p2, 0, none⟩)]))
    (hF : ∀ w1 I, TxR w1 w.heap.size w.heap.size m I ck [] none 0 0 → MemR w1 lo0 m cb g sc ch ws ck 0 od sb → Below w.heap.size w w1 → Calls Tryz.prog 21 #[IV w.heap.size, .pointer (some ⟨p1, 0, none⟩), .pointer (some ⟨p2, 0, none⟩)] w1 fun e w2 => e = .returned (.int .i64 0) ∧ BlkP w lo0 w.heap.size w.heap.size m cb g sc ch ws ck 0 od sb a x w2) :
    Calls Tryz.prog 15 #[.pointer (some ⟨m, 0, none⟩), .slice (some ⟨ab, 0, none⟩) 1 c] w fun e w' => e = .returned (.tuple #[.int .u64 (ck / 2 + 1), .int .i64 0]) ∧ ∃ ch', MemR w' lo0 m cb g sc ch' (ws.set a x) (ck + 2) 0 od sb ∧ Ex w w' (fun k => k = m ∨ k = g ∨ k = ch) := by
  have HN := Lib.hid (memNone w hm)
  have HI := Lib.hid (isSet w (hm.c (i := 2) (by omega)).1)
  have HB := Lib.hid (txBegin w hm (by omega))
  have HM := Lib.hid hm
  have HF := Lib.hid hF
  have hab : ab < w.heap.size := World.block_lt_of_cell? w ⟨ab, 0, none⟩ hf
  have hfl := Lib.hid hf
  clear hm hF hf
  go_enter Tryz.func15, Tryz.ntmps15
  go_wp2_with (go_at_call 19; refine halt_ ?_)
  refine Halt_.go ?_
  refine HN.out.mono ?_
  rintro e w0 ⟨rfl, rfl⟩
  go_wp2_with (go_at_call 28; refine halt_ ?_)
  refine Halt_.go ?_
  refine HI.out.mono ?_
  rintro e w0 ⟨rfl, rfl⟩
  clear HN HI
  have hLies : Lies w0.heap.size m cb g sc := ⟨HM.out.blk.lt.2, HM.out.cel.lt.2.1, HM.out.cel.lt.2.2.2, HM.out.lch.2.2.2.1⟩
  have hsch := HM.out.lch.2.1
  go_wp2
  refine wp_loop_once ?_
  go_wp2_with (go_at_call 29; refine halt_ ?_)
  refine Halt_.go ?_
  refine HB.out.mono ?_
  rintro e w1 ⟨I, rfl, ht1, hb1⟩
  have hm1 := HM.out.ex (Ex.of_below hb1) (S := fun _ => False) id id id id id
  have HO := Lib.hid (one21 w1 ht1 p1 p2 ab c ((hb1.cell (p := ⟨ab, 0, none⟩) hab).trans hfl.out) (fun r E w2 => r = 0 ∧ E = 0 ∧ BlkP w0 lo0 w0.heap.size w0.heap.size m cb g sc ch ws ck 0 od sb a x w2)
    ((HF.out w1 I ht1 hm1 hb1).mono (by rintro e w2 ⟨rfl, hp⟩; exact ⟨0, 0, rfl, rfl, rfl, hp⟩)) (by rintro r E w2 ⟨rfl, rfl, I', sn', R', ht, _⟩; exact ⟨_, _, _, _, _, ht⟩))
  have HB1 := Lib.hid hb1
  clear ht1 hb1 hm1 HF HB
  go_wp2_with (go_at_call 30; refine halt_ ?_)
  refine Halt_.go ?_
  refine HO.out.mono ?_
  rintro e w3 ⟨r, E, w2, ⟨rfl, rfl, I', sn', R', ht2, hm2, hb2, hv, hRl, hRb⟩, rfl, hw3⟩
  have hx3 : Ex w2 w3 (TxS w0.heap.size I') := by rw [hw3]; exact ((Ex.refl _ _).set _ _ fun _ => .inl rfl).drew
  have ht3 : TxR w3 w0.heap.size w0.heap.size m I' sn' R' (some ((a : Int), x)) 0 1 := by rw [hw3]; exact (ht2.setOv 1).drewN 1
  have hm3 := hm2.tx hLies ht2 hx3
  have hb3 := hb2.trans (ht2.blw hx3)
  have HC := Lib.hid (txCommit w3 a x hm3 ht3 hLies hwl hRl hRb hev ha)
  have c4 : w3.cell? ⟨w0.heap.size, 4, none⟩ = some (.int .i64 0) := (ht3.c (i := 4) (by omega)).1
  have HT3 := Lib.hid ht3
  have HB3 := Lib.hid hb3
  have HV := Lib.hid hv
  clear ht2 hm2 hb2 hv hRl hRb hw3 hx3 ht3 hm3 hb3 HO
  simp only [if_true]
  go_wp2_with (go_at_call 31; refine halt_ ?_)
  refine Halt_.go ?_
  refine HC.out.mono ?_
  rintro e w4 hc
  rcases hc with ⟨hne, hoth, _⟩ | ⟨_, rfl, ch', hm4, hx4⟩
  · exfalso
    rcases HV.out with h | h
    · exact hne h
    · rw [h] at hoth; cases hoth
  have HM4 := Lib.hid hm4
  have HX4 := Lib.hid hx4
  clear hm4 hx4 HC c4 HV
  go_wp2
  go_ret2
  refine ⟨rfl, ch', HM4.out, ?_⟩
  have h3 := HB3.out
  have h4 := HX4.out
  refine ⟨h4.os.trans h3.os, h4.tape.trans h3.tape, h4.output.trans h3.output, Nat.le_trans h3.size h4.size, fun k hk hs => (h4.block k (Nat.lt_of_lt_of_le hk h3.size) ?_).trans (h3.block k hk)⟩
  rintro (h | h)
  · have := (HT3.out.lt h).1; omega
  · exact hs h
end
end Go.Proofs.YtomcobcmjocapaaGreatDoor
