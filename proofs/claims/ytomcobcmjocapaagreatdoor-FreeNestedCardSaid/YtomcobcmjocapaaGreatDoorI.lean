/- The read log's Add. -/
import Derived.Test.YtomcobcmjocapaaGreatDoorH
namespace Go.Proofs.YtomcobcmjocapaaGreatDoor
open Go.RowKit
section
variable {w w' : World} {lo rd : Nat} {vR : Value} {R : List (Int × Int)}
theorem pcells_len (l : List (Int × Int)) : (l.flatMap pcells).length = l.length * 2 := by
  induction l with
  | nil => rfl
  | cons p l ih => simp [List.flatMap_cons, pcells, ih]; omega
set_option maxRecDepth 100000 in
set_option maxHeartbeats 6400000 in
theorem readsAdd (w : World) (h : ReadsR w lo rd vR R) (a : Nat) (x : Int) (hR : R.length < 1024) :
    Calls Tryz.prog 118 #[.pointer (some ⟨rd, 0, none⟩), .int .u64 a, .int .u64 x] w fun e w' => e = .returned (.int .i64 0) ∧ ∃ vR', ReadsR w' lo rd vR' (R ++ [((a : Int), x)]) ∧ (vR'.ownBlock = vR.ownBlock ∨ ∃ g, vR'.ownBlock = some g ∧ w.heap.size ≤ g) ∧ Ex w w' (fun k => k = rd ∨ vR.ownBlock = some k) := by
  have HN := Lib.hid (readsNone w h)
  have hdr : ∀ n : Nat, ReadsR (w.drewN n) lo rd vR R := fun n => ⟨h.blk.kept rfl, own_keep h.row fun _ _ => rfl⟩
  have HDR := Lib.hid hdr
  obtain ⟨A, c, hvR⟩ := own_shape h.row
  subst hvR
  have hcc := h.c
  obtain ⟨⟨c0, c1⟩, c2, z2⟩ := hcc
  have i1 : (R.length : Int) < 1024 := by omega
  have hlo : lo ≤ w.heap.size := by have := h.blk.lt; omega
  clear h hdr
  go_enter Tryz.func118, Tryz.ntmps118
  go_wp2_with (go_at_call 84; refine halt_ ?_)
  refine Halt_.go ?_
  refine HN.out.mono ?_
  rintro e w' ⟨rfl, rfl⟩
  clear HN
  go_wp2
  go_quiet (fail)
  have HW := Lib.hid (HDR.out nq)
  have HX : Hid (Ex w' (w'.drewN nq) (fun k => k = rd ∨ (Value.slice A R.length c).ownBlock = some k)) := (Ex.refl _ _).drewN nq
  replace c0 : (w'.drewN nq).cell? ⟨rd, 0, none⟩ = some (.bool true) := c0
  replace c2 : (w'.drewN nq).cell? ⟨rd, 2, none⟩ = some (.slice A R.length c) := c2
  replace z2 : (w'.drewN nq).frozen? ⟨rd, 2, none⟩ = false := z2
  replace hlo : lo ≤ (w'.drewN nq).heap.size := hlo
  have hsz : (w'.drewN nq).heap.size = w'.heap.size := rfl
  generalize w'.drewN nq = w2 at *
  clear HDR c1
  have HSZ := Lib.hid hsz
  clear hsz
  go_wp2_with (at_builtin; refine halt_ ?_)
  refine Halt_.go ?_
  refine wl_append_two _ (by rfl) (.tmp 25) (.tmp 29) 110 (by rfl) lo 102 _ 2 16 info102 Tryz.underlying110 rfl (by decide) (.slice A R.length c) R.length (R.flatMap pcells) (by rfl) (HW.out.row.alloc _) w2.heap.size 1 [.int .u64 a, .int .u64 x] (by rfl) (heap_at _ _ _ (by simp)) rfl (by simp [Value.oneCell']) (by omega) (by omega) (by simp; omega) ?_
  intro g cap2 w3 hown3 hlt3 htwo
  have hgr : w2.grownBy w3 (Value.slice A R.length c).ownBlock := grown_trans (World.grownBy_alloc _ _ _) (two_grown htwo)
  have hne : (Value.slice A R.length c).ownBlock ≠ some rd := own_apart (show w2.ownsRow lo 112 3 (.slice (some ⟨rd, 0, none⟩) 1 1) 1 _ from HW.out.blk) HW.out.row (by decide) rfl
  have hb3 := HW.out.blk.kept (hgr.block rd HW.out.blk.lt.2 (fun e => hne e.symm))
  have hgne : (Value.slice (some ⟨g, 0, none⟩) (R.length + 1) cap2).ownBlock ≠ some rd := own_apart (show w3.ownsRow lo 112 3 (.slice (some ⟨rd, 0, none⟩) 1 1) 1 _ from hb3) hown3 (by decide) rfl
  have hgor : g = w2.heap.size + 1 ∨ (Value.slice A R.length c).ownBlock = some g := by
    rcases htwo with h | h
    · exact .inr h.1
    · left; rw [h.1]; simp
  obtain ⟨d2, e2⟩ := hb3.cell (j := 2) (by omega)
  have HRD : Hid (ReadsR (w3.setCell ⟨rd, 2, none⟩ (.slice (some ⟨g, 0, none⟩) (R.length + 1) cap2)) lo rd (.slice (some ⟨g, 0, none⟩) (R.length + 1) cap2) (R ++ [((a : Int), x)])) := by
    refine ⟨(hb3.set 2 (.slice (some ⟨g, 0, none⟩) (R.length + 1) cap2)).congr fun i hi => ?_, ?_⟩
    · have : i = 0 ∨ i = 1 ∨ i = 2 := by omega
      rcases this with rfl | rfl | rfl <;> rfl
    · have hl : (R ++ [((a : Int), x)]).length = R.length + 1 := by simp
      have hf : (R ++ [((a : Int), x)]).flatMap pcells = R.flatMap pcells ++ [.int .u64 a, .int .u64 x] := by simp [List.flatMap_append, pcells]
      rw [hl, hf]
      exact own_keep hown3 fun k hk => Below.heap_setCell w3 ⟨rd, 2, none⟩ _ k fun e => hgne (by rw [← show k = rd from e]; exact hk)
  have HEX : Hid (Ex w' (w3.setCell ⟨rd, 2, none⟩ (.slice (some ⟨g, 0, none⟩) (R.length + 1) cap2)) (fun k => k = rd ∨ (Value.slice A R.length c).ownBlock = some k)) := (HX.out.trans ((Ex.refl w2 (fun k => (Value.slice A R.length c).ownBlock = some k)).grown hgr (fun _ h _ => h)) (fun k _ h => .inr h)).set _ _ fun _ => .inl rfl
  have HGO : Hid ((Value.slice (some ⟨g, 0, none⟩) (R.length + 1) cap2).ownBlock = (Value.slice A R.length c).ownBlock ∨ ∃ g', (Value.slice (some ⟨g, 0, none⟩) (R.length + 1) cap2).ownBlock = some g' ∧ w'.heap.size ≤ g') := by
    rcases hgor with h | h
    · exact .inr ⟨g, rfl, by have := HSZ.out; omega⟩
    · exact .inl h.symm
  clear hgr hne hb3 hgne hgor hown3 htwo HW HX c0 c2 z2 hlo
  go_wp2
  go_ret
  exact ⟨rfl, _, HRD.out, HGO.out, HEX.out⟩
end
end Go.Proofs.YtomcobcmjocapaaGreatDoor
