/- The redo log's Put, of a log without entries. -/
import Derived.Test.YtomcobcmjocapaaGreatDoorI
namespace Go.Proofs.YtomcobcmjocapaaGreatDoor
open Go.RowKit
/-- what a redo log lies in -/
def RedS (ro tb sg : Nat) (vD vP vK : Value) (k : Nat) : Prop := k = ro ∨ k = tb ∨ k = sg ∨ vD.ownBlock = some k ∨ vP.ownBlock = some k ∨ vK.ownBlock = some k
section
variable {w w' : World} {lo ro tb sg : Nat} {vD vP vK : Value} {D : Option (Int × Int)}
theorem RedoR.kept (h : RedoR w lo ro tb sg vD vP vK D) (hk : ∀ k, RedS ro tb sg vD vP vK k → w'.heap[k]? = w.heap[k]?) : RedoR w' lo ro tb sg vD vP vK D :=
  ⟨h.blk.kept (hk _ (.inl rfl)), own_keep h.row fun k e => hk k (.inr (.inr (.inr (.inl e)))), own_keep h.past fun k e => hk k (.inr (.inr (.inr (.inr (.inl e))))),
    ⟨h.tab.blk.kept (hk _ (.inr (.inl rfl))), own_keep h.tab.row fun k e => hk k (.inr (.inr (.inl (by injection e with e; exact e.symm)))), own_keep h.tab.keys fun k e => hk k (.inr (.inr (.inr (.inr (.inr e)))))⟩⟩
theorem TabR.kept2 {w w' : World} {lo tb sg : Nat} {vK : Value} {D : Option Int} (h : TabR w lo tb sg vK D) (hk : ∀ k, (k = tb ∨ k = sg ∨ vK.ownBlock = some k) → w'.heap[k]? = w.heap[k]?) : TabR w' lo tb sg vK D :=
  ⟨h.blk.kept (hk _ (.inl rfl)), own_keep h.row fun k e => hk k (.inr (.inl (by injection e with e; exact e.symm))), own_keep h.keys fun k e => hk k (.inr (.inr e))⟩
theorem TabR.ltS {w : World} {lo tb sg : Nat} {vK : Value} {D : Option Int} (h : TabR w lo tb sg vK D) {k : Nat} (hk : k = tb ∨ k = sg ∨ vK.ownBlock = some k) : k < w.heap.size := by
  rcases hk with rfl | rfl | e
  · exact h.lt.2.1
  · exact h.lt.2.2.2
  · exact (World.ownsRow.lt h.keys k e).2
/-- a row of another type than the table's three -/
theorem TabR.apart {w : World} {lo lo' tb sg E s n : Nat} {v vK : Value} {xs : List Value} {D : Option Int} (h : TabR w lo tb sg vK D) (h' : w.ownsRow lo' E s v n xs) (h1 : E ≠ 134) (h2 : E ≠ 138) (h3 : E ≠ 23) {k : Nat} (hk : k = tb ∨ k = sg ∨ vK.ownBlock = some k) : v.ownBlock ≠ some k := by
  have htb : w.ownsRow lo 134 2 (.slice (some ⟨tb, 0, none⟩) 1 1) 1 _ := h.blk
  rcases hk with rfl | rfl | e
  · exact own_apart htb h' (fun e => h1 e.symm) rfl
  · exact own_apart h.row h' (fun e => h2 e.symm) rfl
  · exact own_apart h.keys h' (fun e => h3 e.symm) e
theorem RedoR.lt (h : RedoR w lo ro tb sg vD vP vK D) {k : Nat} (hk : RedS ro tb sg vD vP vK k) : lo ≤ k ∧ k < w.heap.size := by
  rcases hk with rfl | rfl | rfl | e | e | e
  · exact h.blk.lt
  · exact ⟨h.tab.lt.1, h.tab.lt.2.1⟩
  · exact ⟨h.tab.lt.2.2.1, h.tab.lt.2.2.2⟩
  · exact World.ownsRow.lt h.row k e
  · exact World.ownsRow.lt h.past k e
  · exact World.ownsRow.lt h.tab.keys k e
set_option linter.unusedSimpArgs false in
set_option maxRecDepth 100000 in
set_option maxHeartbeats 6400000 in
theorem redoPut (w : World) (h : RedoR w lo ro tb sg vD vP vK none) (hd : Deb w) (a : Nat) (x : Int) :
    Calls Tryz.prog 119 #[.pointer (some ⟨ro, 0, none⟩), .int .u64 a, .int .u64 x] w fun e w' => e = .returned (.int .i64 0) ∧ ∃ vD' vP' vK', RedoR w' lo ro tb sg vD' vP' vK' (some ((a : Int), x)) ∧ (vD'.ownBlock = vD.ownBlock ∨ ∃ g, vD'.ownBlock = some g ∧ w.heap.size ≤ g) ∧ Ex w w' (RedS ro tb sg vD vP vK) := by
  have HN := Lib.hid (redoNone w h)
  have HG := Lib.hid (tabGet w h.tab hd a (.inl rfl))
  obtain ⟨A, c, hvD⟩ : ∃ A c, vD = .slice A 0 c := own_shape (show w.ownsRow lo 102 2 vD 0 [] from h.row)
  obtain ⟨Ap, cp, hvP⟩ : ∃ A c, vP = .slice A 0 c := own_shape (show w.ownsRow lo 120 3 vP 0 [] from h.past)
  subst hvD
  subst hvP
  have c1 : w.cell? ⟨ro, 1, none⟩ = some (.int .i64 1024) := (h.c (i := 1) (by omega)).1
  have c2 : w.cell? ⟨ro, 2, none⟩ = some (.slice A 0 c) := (h.c (i := 2) (by omega)).1
  have c3 : w.cell? ⟨ro, 3, none⟩ = some (.pointer (some ⟨tb, 0, none⟩)) := (h.c (i := 3) (by omega)).1
  have c4 : w.cell? ⟨ro, 4, none⟩ = some (.slice Ap 0 cp) := (h.c (i := 4) (by omega)).1
  have HH := Lib.hid h
  have HD := Lib.hid hd
  clear h hd
  go_enter Tryz.func119, Tryz.ntmps119
  go_wp2_with (go_at_call 58; refine halt_ ?_)
  refine Halt_.go ?_
  refine HN.out.mono ?_
  rintro e w' ⟨rfl, rfl⟩
  clear HN
  go_wp2_with (go_at_call 69; refine halt_ ?_)
  refine Halt_.go ?_
  refine HG.out.mono ?_
  rintro e w1 ⟨rfl, n1, rfl⟩
  clear HG
  go_wp2
  go_quiet (fail)
  rw [World.drewN_drewN]
  have HH2 : Hid (RedoR (w'.drewN (n1 + nq)) lo ro tb sg (.slice A 0 c) (.slice Ap 0 cp) vK none) := HH.out.kept fun _ _ => rfl
  have HD2 : Hid (Deb (w'.drewN (n1 + nq))) := HD.out
  have HX2 : Hid (Ex w' (w'.drewN (n1 + nq)) (RedS ro tb sg (.slice A 0 c) (.slice Ap 0 cp) vK)) := (Ex.refl _ _).drewN _
  have HSZ2 : Hid ((w'.drewN (n1 + nq)).heap.size = w'.heap.size) := rfl
  clear HH HD c1 c2 c3 c4
  generalize w'.drewN (n1 + nq) = w2 at *
  have HDR : Hid (∀ n, RedoR (w2.drewN n) lo ro tb sg (.slice A 0 c) (.slice Ap 0 cp) vK none) := fun n => HH2.out.kept fun _ _ => rfl
  have c2 : w2.cell? ⟨ro, 2, none⟩ = some (.slice A 0 c) := (HH2.out.c (i := 2) (by omega)).1
  have c3 : w2.cell? ⟨ro, 3, none⟩ = some (.pointer (some ⟨tb, 0, none⟩)) := (HH2.out.c (i := 3) (by omega)).1
  go_wp2
  go_still_tail 10, (by kernel_rfl)
  change wpList _ _ _ _ _ w2.drew
  have HP := Lib.hid (tabPut w2.drew (HDR.out 1).tab HD2.out a)
  go_wp2_with (go_at_call 120; refine halt_ ?_)
  refine Halt_.go ?_
  refine HP.out.mono ?_
  rintro e w3 ⟨rfl, vK', htab, hgk, hx3⟩
  have hne : ∀ k, (k = ro ∨ (Value.slice A 0 c).ownBlock = some k ∨ (Value.slice Ap 0 cp).ownBlock = some k) → ¬ (k = tb ∨ k = sg ∨ vK.ownBlock = some k) := by
    have hro : w2.ownsRow lo 117 5 (.slice (some ⟨ro, 0, none⟩) 1 1) 1 _ := HH2.out.blk
    have htb : w2.ownsRow lo 134 2 (.slice (some ⟨tb, 0, none⟩) 1 1) 1 _ := HH2.out.tab.blk
    have hsg := HH2.out.tab.row
    have hvk := HH2.out.tab.keys
    have hvd := HH2.out.row
    have hvp := HH2.out.past
    rintro k (rfl | e1 | e1) (rfl | rfl | e2)
    · exact own_apart hro htb (by decide) rfl rfl
    · exact own_apart hro hsg (by decide) rfl rfl
    · exact own_apart hro hvk (by decide) rfl e2
    · exact own_apart hvd htb (by decide) e1 rfl
    · exact own_apart hvd hsg (by decide) e1 rfl
    · exact own_apart hvd hvk (by decide) e1 e2
    · exact own_apart hvp htb (by decide) e1 rfl
    · exact own_apart hvp hsg (by decide) e1 rfl
    · exact own_apart hvp hvk (by decide) e1 e2
  have hx23 : Ex w2 w3 (fun k => k = tb ∨ k = sg ∨ vK.ownBlock = some k) := ⟨hx3.os, hx3.tape, hx3.output, hx3.size, hx3.block⟩
  have hkp : ∀ k, (k = ro ∨ (Value.slice A 0 c).ownBlock = some k ∨ (Value.slice Ap 0 cp).ownBlock = some k) → w3.heap[k]? = w2.heap[k]? := fun k hk => by
    refine hx23.block k ?_ (hne k hk)
    rcases hk with rfl | e | e
    · exact HH2.out.blk.lt.2
    · exact (World.ownsRow.lt HH2.out.row k e).2
    · exact (World.ownsRow.lt HH2.out.past k e).2
  have hblk := HH2.out.blk.kept (hkp ro (.inl rfl))
  have hrow : w3.ownsRow lo 102 2 (.slice A 0 c) 0 [] := own_keep HH2.out.row fun k e => hkp k (.inr (.inl e))
  have hpast : w3.ownsRow lo 120 3 (.slice Ap 0 cp) 0 [] := own_keep HH2.out.past fun k e => hkp k (.inr (.inr e))
  have HX3 : Hid (Ex w' w3 (RedS ro tb sg (.slice A 0 c) (.slice Ap 0 cp) vK)) := HX2.out.trans hx23 fun k _ h => by
    rcases h with rfl | rfl | h
    · exact .inr (.inl rfl)
    · exact .inr (.inr (.inl rfl))
    · exact .inr (.inr (.inr (.inr (.inr h))))
  have hs23 : w2.heap.size ≤ w3.heap.size := hx23.size
  have hlo3 : lo ≤ w3.heap.size := by have := hblk.lt; omega
  have HSZ3 : Hid (w'.heap.size ≤ w3.heap.size) := by
    show w'.heap.size ≤ w3.heap.size
    have := HSZ2.out
    omega
  have HBLK := Lib.hid hblk
  have HROW := Lib.hid hrow
  have HPAST := Lib.hid hpast
  have HTAB := Lib.hid htab
  have hpne : (Value.slice Ap 0 cp).ownBlock ≠ some ro := own_apart (show w3.ownsRow lo 117 5 (.slice (some ⟨ro, 0, none⟩) 1 1) 1 _ from hblk) hpast (by decide) rfl
  have HS : Hid (∀ W, Ex w3 W (fun k => (Value.slice Ap 0 cp).ownBlock = some k) → (W.cell? ⟨ro, 2, none⟩ = some (.slice A 0 c)) ∧ (W.cell? ⟨ro, 4, none⟩ = some (.slice Ap 0 cp) ∧ W.frozen? ⟨ro, 4, none⟩ = false) ∧ Ex w3 W (fun k => (Value.slice Ap 0 cp).ownBlock = some k)) := by
    intro W hx
    have hb := hblk.kept (hx.block ro hblk.lt.2 hpne)
    exact ⟨(hb.cell (j := 2) (by omega)).1, hb.cell (j := 4) (by omega), hx⟩
  have hSt := HS.out _ ((Ex.refl w3 (fun k => (Value.slice Ap 0 cp).ownBlock = some k)).drew)
  obtain ⟨c2, ⟨c4, z4⟩, _⟩ := HS.out _ (Ex.refl w3 _)
  clear hne hx3 hx23 hkp hblk hrow hpast hgk htab hs23 HH2 HD2 HX2 HSZ2 HDR HP c3
  go_wp2
  refine wp_region_C (S := fun W => (W.cell? ⟨ro, 2, none⟩ = some (.slice A 0 c)) ∧ (W.cell? ⟨ro, 4, none⟩ = some (.slice Ap 0 cp) ∧ W.frozen? ⟨ro, 4, none⟩ = false) ∧ Ex w3 W (fun k => (Value.slice Ap 0 cp).ownBlock = some k)) 15 (by kernel_rfl) hSt (fun hHeld => ?_)
  clear hSt
  refine wpAnyC_take [15] (i := 0) (oi := _) (v := ?v13_0) rfl (by kernel_rfl) (by kernel_rfl) (by kernel_rfl) (by kernel_rfl) (fun _ _ _ h => h) (Or.inl ⟨by rfl, ?hy13_0⟩) (by assumption) ?rest13_0
  case hy13_0 => ((intro w hSw; (try dsimp only at hSw); go_simp); (try with_reducible rfl))
  (try simp only [Act.put, Array.getInternal_eq_getElem, List.getElem_toArray, List.getElem_cons_zero, List.getElem_cons_succ, List.setIfInBounds_toArray, List.set_cons_zero, List.set_cons_succ])
  refine wpAnyC_take [15] (i := 1) (oi := _) (v := ?v13_1) rfl (by kernel_rfl) (by kernel_rfl) (by kernel_rfl) (by kernel_rfl) (fun _ _ _ h => h) (Or.inl ⟨by rfl, ?hy13_1⟩) (by assumption) ?rest13_1
  case hy13_1 => ((intro w hSw; (try dsimp only at hSw); go_simp); (try with_reducible rfl))
  (try simp only [Act.put, Array.getInternal_eq_getElem, List.getElem_toArray, List.getElem_cons_zero, List.getElem_cons_succ, List.setIfInBounds_toArray, List.set_cons_zero, List.set_cons_succ])
  refine wpAnyC_take [15] (i := 2) (oi := _) (v := ?v13_2) rfl (by kernel_rfl) (by kernel_rfl) (by kernel_rfl) (by kernel_rfl) (fun _ _ _ h => h) (Or.inl ⟨by rfl, ?hy13_2⟩) (by assumption) ?rest13_2
  case hy13_2 => ((intro w hSw; (try dsimp only at hSw); go_simp); (try with_reducible rfl))
  (try simp only [Act.put, Array.getInternal_eq_getElem, List.getElem_toArray, List.getElem_cons_zero, List.getElem_cons_succ, List.setIfInBounds_toArray, List.set_cons_zero, List.set_cons_succ])
  refine wpAnyC_take [15] (i := 3) (oi := _) (v := ?v13_3) rfl (by kernel_rfl) (by kernel_rfl) (by kernel_rfl) (by kernel_rfl) (fun _ _ _ h => h) (Or.inl ⟨by rfl, ?hy13_3⟩) (by assumption) ?rest13_3
  case hy13_3 => ((intro w hSw; (try dsimp only at hSw); go_simp); (try with_reducible rfl))
  (try simp only [Act.put, Array.getInternal_eq_getElem, List.getElem_toArray, List.getElem_cons_zero, List.getElem_cons_succ, List.setIfInBounds_toArray, List.set_cons_zero, List.set_cons_succ])
  refine wpAnyC_take [15] (i := 4) (oi := _) (v := ?v13_4) rfl (by kernel_rfl) (by kernel_rfl) (by kernel_rfl) (by kernel_rfl) (fun _ _ _ h => h) (Or.inl ⟨by rfl, ?hy13_4⟩) (by assumption) ?rest13_4
  case hy13_4 => ((intro w hSw; (try dsimp only at hSw); go_simp); (try with_reducible rfl))
  (try simp only [Act.put, Array.getInternal_eq_getElem, List.getElem_toArray, List.getElem_cons_zero, List.getElem_cons_succ, List.setIfInBounds_toArray, List.set_cons_zero, List.set_cons_succ])
  refine wpAnyC_take [15] (i := 5) (oi := _) (v := ?v13_5) rfl (by kernel_rfl) (by kernel_rfl) (by kernel_rfl) (by kernel_rfl) (fun _ _ _ h => h) (Or.inl ⟨by rfl, ?hy13_5⟩) (by assumption) ?rest13_5
  case hy13_5 => ((intro w hSw; (try dsimp only at hSw); go_simp); (try with_reducible rfl))
  (try simp only [Act.put, Array.getInternal_eq_getElem, List.getElem_toArray, List.getElem_cons_zero, List.getElem_cons_succ, List.setIfInBounds_toArray, List.set_cons_zero, List.set_cons_succ])
  refine wpAnyC_take [15] (i := 6) (oi := _) (v := ?v13_6) rfl (by kernel_rfl) (by kernel_rfl) (by kernel_rfl) (by kernel_rfl) (fun _ _ _ h => h) (Or.inl ⟨by rfl, ?hy13_6⟩) (by assumption) ?rest13_6
  case hy13_6 => ((intro w hSw; (try dsimp only at hSw); go_simp); (try with_reducible rfl))
  (try simp only [Act.put, Array.getInternal_eq_getElem, List.getElem_toArray, List.getElem_cons_zero, List.getElem_cons_succ, List.setIfInBounds_toArray, List.set_cons_zero, List.set_cons_succ])
  refine wpAnyC_take [15] (i := 7) (oi := _) (v := ?v13_7) rfl (by kernel_rfl) (by kernel_rfl) (by kernel_rfl) (by kernel_rfl) (fun _ _ _ h => h) (Or.inl ⟨by rfl, ?hy13_7⟩) (by assumption) ?rest13_7
  case hy13_7 => ((intro w hSw; (try dsimp only at hSw); go_simp); (try with_reducible rfl))
  (try simp only [Act.put, Array.getInternal_eq_getElem, List.getElem_toArray, List.getElem_cons_zero, List.getElem_cons_succ, List.setIfInBounds_toArray, List.set_cons_zero, List.set_cons_succ])
  refine wpAnyC_take [15] (i := 8) (oi := _) (v := ?v13_8) rfl (by kernel_rfl) (by kernel_rfl) (by kernel_rfl) (by kernel_rfl) (fun _ _ _ h => h) (Or.inl ⟨by rfl, ?hy13_8⟩) (by assumption) ?rest13_8
  case hy13_8 => ((intro w hSw; (try dsimp only at hSw); go_simp); (try with_reducible rfl))
  (try simp only [Act.put, Array.getInternal_eq_getElem, List.getElem_toArray, List.getElem_cons_zero, List.getElem_cons_succ, List.setIfInBounds_toArray, List.set_cons_zero, List.set_cons_succ])
  refine wpAnyC_take [15] (i := 9) (oi := _) (v := ?v13_9) rfl (by kernel_rfl) (by kernel_rfl) (by kernel_rfl) (by kernel_rfl) (fun _ _ _ h => h) (Or.inl ⟨by rfl, ?hy13_9⟩) (by assumption) ?rest13_9
  case hy13_9 => ((intro w hSw; (try dsimp only at hSw); go_simp); (try with_reducible rfl))
  (try simp only [Act.put, Array.getInternal_eq_getElem, List.getElem_toArray, List.getElem_cons_zero, List.getElem_cons_succ, List.setIfInBounds_toArray, List.set_cons_zero, List.set_cons_succ])
  refine wpAnyC_take [15] (i := 10) (oi := _) (v := ?v13_10) rfl (by kernel_rfl) (by kernel_rfl) (by kernel_rfl) (by kernel_rfl) (fun _ _ _ h => h) (Or.inl ⟨by rfl, ?hy13_10⟩) (by assumption) ?rest13_10
  case hy13_10 => ((intro w hSw; (try dsimp only at hSw); go_simp); (try with_reducible rfl))
  (try simp only [Act.put, Array.getInternal_eq_getElem, List.getElem_toArray, List.getElem_cons_zero, List.getElem_cons_succ, List.setIfInBounds_toArray, List.set_cons_zero, List.set_cons_succ])
  refine wpAnyC_one (i := 11) (o := _) (by kernel_rfl) rfl (fun K hK => ?_)
  go_simp
  refine hK.out _ _ (HS.out _ (hHeld.2.2.alloc _)) (fun hHeldN => ?_)
  clear hK K hHeld
  have hHeld := hHeldN
  clear hHeldN
  (try simp only [Act.put, Array.getInternal_eq_getElem, List.getElem_toArray, List.getElem_cons_zero, List.getElem_cons_succ, List.setIfInBounds_toArray, List.set_cons_zero, List.set_cons_succ])
  refine wpAnyC_one (i := 12) (o := _) (by kernel_rfl) rfl (fun K hK => ?_)
  refine step_append_two _ (by rfl) (.tmp 80) (.tmp 87) 115 (by rfl) lo 120 _ 3 24 info120 Tryz.underlying115 rfl (by decide) (.slice Ap 0 cp) 0 [] (by rfl) (HPAST.out.alloc _) w3.heap.size 1 [.int .i64 0, .int .u64 0, .bool true] (by rfl) (heap_at _ _ _ (by simp)) rfl (by simp [Value.oneCell']) (by omega) (by omega) (by simp; omega) ?_
  intro g cap2 w4 hown4 hlt4 htwo
  have hgr : w3.grownBy w4 (Value.slice Ap 0 cp).ownBlock := grown_trans (grown_trans (grown_drew _ _) (World.grownBy_alloc _ _ _)) (two_grown htwo)
  refine hK.out _ _ (HS.out _ ((Ex.refl w3 _).grown hgr (fun _ h _ => h))) (fun hHeldN => ?_)
  clear hK K hHeld
  have hHeld := hHeldN
  clear hHeldN
  (try simp only [Act.put, Array.getInternal_eq_getElem, List.getElem_toArray, List.getElem_cons_zero, List.getElem_cons_succ, List.setIfInBounds_toArray, List.set_cons_zero, List.set_cons_succ])
  refine wpAnyC_take [15, 14] (i := 13) (oi := _) (v := ?v13_13) rfl (by kernel_rfl) (by kernel_rfl) (by kernel_rfl) (by kernel_rfl) (fun _ _ _ h => h) (Or.inl ⟨by rfl, ?hy13_13⟩) (by assumption) ?rest13_13
  case hy13_13 => ((intro w hSw; (try dsimp only at hSw); go_simp); (try with_reducible rfl))
  (try simp only [Act.put, Array.getInternal_eq_getElem, List.getElem_toArray, List.getElem_cons_zero, List.getElem_cons_succ, List.setIfInBounds_toArray, List.set_cons_zero, List.set_cons_succ])
  refine wpAnyC_take [15] (i := 14) (oi := _) (v := ?v13_14) rfl (by kernel_rfl) (by kernel_rfl) (by kernel_rfl) (by kernel_rfl) (fun _ _ _ h => h) (Or.inl ⟨by rfl, ?hy13_14⟩) (by assumption) ?rest13_14
  case hy13_14 => ((intro w hSw; (try dsimp only at hSw); go_simp); (try with_reducible rfl))
  (try simp only [Act.put, Array.getInternal_eq_getElem, List.getElem_toArray, List.getElem_cons_zero, List.getElem_cons_succ, List.setIfInBounds_toArray, List.set_cons_zero, List.set_cons_succ])
  refine wpAnyC_last (o := _) (by kernel_rfl) rfl (fun K hK => ?_)
  go_simp
  refine hK.out _ _ ?_
  clear hK K
  refine wpAnyC_done (by kernel_rfl) ?_ _
  have hb4 := HBLK.out.kept (hHeld.2.2.block ro HBLK.out.lt.2 hpne)
  have hgro : (Value.slice (some ⟨g, 0, none⟩) (0 + 1) cap2).ownBlock ≠ some ro := own_apart (show w4.ownsRow lo 117 5 (.slice (some ⟨ro, 0, none⟩) 1 1) 1 _ from hb4) hown4 (by decide) rfl
  have hx4 := hHeld.2.2
  have hs34 := hx4.size
  have hrow4 : w4.ownsRow lo 102 2 (.slice A 0 c) 0 [] := own_keep HROW.out fun k e => hx4.block k (World.ownsRow.lt HROW.out k e).2 (own_apart HROW.out HPAST.out (by decide) e)
  have htab4 : TabR w4 lo tb sg vK' (some (a : Int)) := HTAB.out.kept2 fun k hk => hx4.block k (HTAB.out.ltS hk) (HTAB.out.apart HPAST.out (by decide) (by decide) (by decide) hk)
  obtain ⟨w5, hw5⟩ : ∃ w5, w5 = w4.setCell ⟨ro, 4, none⟩ (.slice (some ⟨g, 0, none⟩) (0 + 1) cap2) := ⟨_, rfl⟩
  have hset : ∀ k, k ≠ ro → w5.heap[k]? = w4.heap[k]? := fun k hk => by rw [hw5]; exact Below.heap_setCell w4 ⟨ro, 4, none⟩ _ k hk
  have hb5 : Blk w5 lo 117 ro 5 (fun i => if i = 0 then .bool true else if i = 1 then .int .i64 1024 else if i = 2 then .slice A 0 c else if i = 3 then .pointer (some ⟨tb, 0, none⟩) else .slice (some ⟨g, 0, none⟩) (0 + 1) cap2) := by
    rw [hw5]
    refine (hb4.set 4 _).congr fun i hi => ?_
    have : i = 0 ∨ i = 1 ∨ i = 2 ∨ i = 3 ∨ i = 4 := by omega
    rcases this with rfl | rfl | rfl | rfl | rfl <;> rfl
  have hro4 : w4.ownsRow lo 117 5 (.slice (some ⟨ro, 0, none⟩) 1 1) 1 _ := hb4
  have hrow5 : w5.ownsRow lo 102 2 (.slice A 0 c) 0 [] := own_keep hrow4 fun k e => hset k fun e2 => own_apart hro4 hrow4 (by decide) rfl (by rw [← e2]; exact e)
  have hpast5 : w5.ownsRow lo 120 3 (.slice (some ⟨g, 0, none⟩) (0 + 1) cap2) (0 + 1) [.int .i64 0, .int .u64 0, .bool true] := own_keep hown4 fun k e => hset k fun e2 => hgro (by rw [← e2]; exact e)
  have htab5 : TabR w5 lo tb sg vK' (some (a : Int)) := htab4.kept2 fun k hk => hset k fun e2 => htab4.apart hro4 (by decide) (by decide) (by decide) hk (by rw [e2]; rfl)
  have HX5 : Hid (Ex w' w5 (RedS ro tb sg (.slice A 0 c) (.slice Ap 0 cp) vK)) := by
    show Ex w' w5 _
    rw [hw5]
    exact (HX3.out.trans hx4 fun k _ h => .inr (.inr (.inr (.inr (.inl h))))).set _ _ fun _ => .inl rfl
  have hs5 : w5.heap.size = w4.heap.size := by rw [hw5]; simp
  have HSZ5 : Hid (w'.heap.size ≤ w5.heap.size) := by
    show w'.heap.size ≤ w5.heap.size
    have := HSZ3.out
    omega
  have hlo5 : lo ≤ w5.heap.size := by omega
  have HB5 := Lib.hid hb5
  have HROW5 := Lib.hid hrow5
  have HPAST5 := Lib.hid hpast5
  have HTAB5 := Lib.hid htab5
  replace c2 : w5.cell? ⟨ro, 2, none⟩ = some (.slice A 0 c) := (hb5.cell (j := 2) (by omega)).1
  rw [← hw5]
  clear hHeld hown4 htwo hgr hb4 hgro hx4 hs34 hrow4 htab4 hset hb5 hro4 hrow5 hpast5 htab5 hs5 hw5 c4 z4 HBLK HROW HPAST HTAB HX3 HSZ3 HS hlo3 hpne
  go_wp2_with (at_builtin; refine halt_ ?_)
  refine Halt_.go ?_
  refine wl_append_two _ (by rfl) (.tmp 95) (.tmp 99) 110 (by rfl) lo 102 _ 2 16 info102 Tryz.underlying110 rfl (by decide) (.slice A 0 c) 0 [] (by rfl) (HROW5.out.alloc _) w5.heap.size 1 [.int .u64 a, .int .u64 x] (by rfl) (heap_at _ _ _ (by simp)) rfl (by simp [Value.oneCell']) (by omega) (by omega) (by simp; omega) ?_
  intro g2 cap3 w6 hown6 hlt6 htwo
  have hgr : w5.grownBy w6 (Value.slice A 0 c).ownBlock := grown_trans (World.grownBy_alloc _ _ _) (two_grown htwo)
  have hro5 : w5.ownsRow lo 117 5 (.slice (some ⟨ro, 0, none⟩) 1 1) 1 _ := HB5.out
  have hne5 : (Value.slice A 0 c).ownBlock ≠ some ro := own_apart hro5 HROW5.out (by decide) rfl
  have hb6 := HB5.out.kept (hgr.block ro HB5.out.lt.2 (fun e => hne5 e.symm))
  have hro6 : w6.ownsRow lo 117 5 (.slice (some ⟨ro, 0, none⟩) 1 1) 1 _ := hb6
  have hg2 : (Value.slice (some ⟨g2, 0, none⟩) (0 + 1) cap3).ownBlock ≠ some ro := own_apart hro6 hown6 (by decide) rfl
  have hpast6 : w6.ownsRow lo 120 3 (.slice (some ⟨g, 0, none⟩) (0 + 1) cap2) (0 + 1) [.int .i64 0, .int .u64 0, .bool true] := own_keep HPAST5.out fun k e => hgr.block k (World.ownsRow.lt HPAST5.out k e).2 fun e2 => own_apart HPAST5.out HROW5.out (by decide) e e2.symm
  have htab6 : TabR w6 lo tb sg vK' (some (a : Int)) := HTAB5.out.kept2 fun k hk => hgr.block k (HTAB5.out.ltS hk) fun e2 => HTAB5.out.apart HROW5.out (by decide) (by decide) (by decide) hk e2.symm
  obtain ⟨d2, e2⟩ := hb6.cell (j := 2) (by omega)
  have hset : ∀ k, k ≠ ro → (w6.setCell ⟨ro, 2, none⟩ (.slice (some ⟨g2, 0, none⟩) (0 + 1) cap3)).heap[k]? = w6.heap[k]? := fun k hk => Below.heap_setCell w6 ⟨ro, 2, none⟩ _ k hk
  have HFIN : Hid (RedoR (w6.setCell ⟨ro, 2, none⟩ (.slice (some ⟨g2, 0, none⟩) (0 + 1) cap3)) lo ro tb sg (.slice (some ⟨g2, 0, none⟩) (0 + 1) cap3) (.slice (some ⟨g, 0, none⟩) (0 + 1) cap2) vK' (some ((a : Int), x))) := by
    refine ⟨(hb6.set 2 _).congr fun i hi => ?_, ?_, ?_, ?_⟩
    · have : i = 0 ∨ i = 1 ∨ i = 2 ∨ i = 3 ∨ i = 4 := by omega
      rcases this with rfl | rfl | rfl | rfl | rfl <;> rfl
    · exact own_keep hown6 fun k e => hset k fun e3 => hg2 (by rw [← e3]; exact e)
    · exact own_keep hpast6 fun k e => hset k fun e3 => own_apart hro6 hpast6 (by decide) rfl (by rw [← e3]; exact e)
    · exact htab6.kept2 fun k hk => hset k fun e3 => htab6.apart hro6 (by decide) (by decide) (by decide) hk (by rw [e3]; rfl)
  have HEX : Hid (Ex w' (w6.setCell ⟨ro, 2, none⟩ (.slice (some ⟨g2, 0, none⟩) (0 + 1) cap3)) (RedS ro tb sg (.slice A 0 c) (.slice Ap 0 cp) vK)) :=
    (HX5.out.trans ((Ex.refl w5 (fun k => (Value.slice A 0 c).ownBlock = some k)).grown hgr (fun _ h _ => h)) fun k _ h => .inr (.inr (.inr (.inl h)))).set _ _ fun _ => .inl rfl
  have HGO : Hid ((Value.slice (some ⟨g2, 0, none⟩) (0 + 1) cap3).ownBlock = (Value.slice A 0 c).ownBlock ∨ ∃ g', (Value.slice (some ⟨g2, 0, none⟩) (0 + 1) cap3).ownBlock = some g' ∧ w'.heap.size ≤ g') := by
    rcases htwo with h | h
    · exact .inl h.1.symm
    · refine .inr ⟨g2, rfl, ?_⟩
      have h1 := h.1
      have h2 := HSZ5.out
      simp at h1
      omega
  clear hgr hro5 hne5 hb6 hro6 hg2 hpast6 htab6 hset hown6 htwo HX5 HSZ5 HB5 HROW5 HPAST5 HTAB5 c2
  go_wp2
  go_ret
  exact ⟨rfl, _, ⟨_, _, HFIN.out⟩, HGO.out, HEX.out⟩
end
end Go.Proofs.YtomcobcmjocapaaGreatDoor
