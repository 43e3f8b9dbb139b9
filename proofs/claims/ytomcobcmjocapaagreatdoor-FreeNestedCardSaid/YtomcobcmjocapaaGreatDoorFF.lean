/- Back, of one word put at 0. -/
import Derived.Test.YtomcobcmjocapaaGreatDoorEE
import Derived.Test.YtomcobcmjocapaaGreatDoorR0
namespace Go.Proofs.YtomcobcmjocapaaGreatDoor
open Go.RowKit Go.MuLone
theorem cell_alloc {W : World} {o : Obj} {a : Addr} {v : Value} (h : W.cell? a = some v) : (W.alloc o).cell? a = some v :=
  (((Below.refl W.heap.size W).alloc (Nat.le_refl _) o).cell (p := a) (World.block_lt_of_cell? W a h)).trans h
section
variable {lo ro tb sg : Nat} {vD vP vK : Value}
set_option linter.unusedSimpArgs false in
set_option maxRecDepth 100000 in
set_option maxHeartbeats 6400000 in
theorem redoBack0 (w : World) (x : Int) (h : RedoR w lo ro tb sg vD vP vK (some (((0 : Nat) : Int), x))) (hd : Deb w) (hlo1 : 1 < lo) :
    Calls Tryz.prog 42 #[.pointer (some ⟨ro, 0, none⟩), .int .i64 0] w fun e w' => e = .returned (.int .i64 0) ∧ ∃ vD' vP' vK', RedoR w' lo ro tb sg vD' vP' vK' none ∧ (∃ g, vD'.ownBlock = some g ∧ w.heap.size ≤ g) ∧ vP'.ownBlock = vP.ownBlock ∧ vK'.ownBlock = vK.ownBlock ∧ Ex w w' (RedS ro tb sg vD vP vK) := by
  have HN := Lib.hid (redoNone w h)
  obtain ⟨gd, cd, hvD, hbgd, hgd⟩ := (show w.ownsRow lo 102 2 vD 1 [.int .u64 ((0 : Nat) : Int), .int .u64 x] from h.row).form (by omega)
  obtain ⟨gp, cp, hvP, hbgp, hgp⟩ := (show w.ownsRow lo 120 3 vP 1 [.int .i64 0, .int .u64 0, .bool true] from h.past).form (by omega)
  subst hvD hvP
  have hrow : w.ownsRow lo 102 2 (.slice (some ⟨gd, 0, none⟩) 1 cd) 1 [.int .u64 ((0 : Nat) : Int), .int .u64 x] := h.row
  have hpast : w.ownsRow lo 120 3 (.slice (some ⟨gp, 0, none⟩) 1 cp) 1 [.int .i64 0, .int .u64 0, .bool true] := h.past
  have c2 : w.cell? ⟨ro, 2, none⟩ = some (.slice (some ⟨gd, 0, none⟩) 1 cd) := (h.c (i := 2) (by omega)).1
  have c4 : w.cell? ⟨ro, 4, none⟩ = some (.slice (some ⟨gp, 0, none⟩) 1 cp) := (h.c (i := 4) (by omega)).1
  have r0 : w.cell? ⟨gd, 0, none⟩ = some (.int .u64 ((0 : Nat) : Int)) := hrow.cellAt 0 (by omega)
  have r1 : w.cell? ⟨gd, 1, none⟩ = some (.int .u64 x) := hrow.cellAt 1 (by omega)
  have hlo : lo ≤ w.heap.size := by omega
  have HH := Lib.hid h
  have HD := Lib.hid hd
  have HROW := Lib.hid hrow
  have HPAST := Lib.hid hpast
  clear h hd hrow hpast
  go_enter Tryz.func42, Tryz.ntmps42
  go_wp2_with (go_at_call 58; refine halt_ ?_)
  refine Halt_.go ?_
  refine HN.out.mono ?_
  rintro e w0 ⟨rfl, rfl⟩
  clear HN
  go_wp2_with (at_builtin; refine halt_ ?_)
  refine Halt_.go ?_
  refine wl_append_src _ (by rfl) (.const (.slice none 0 0)) (.tmp 25) 110 (by rfl) w0.heap.size 102 _ 2 16 info102 Tryz.underlying110 rfl (by decide) (.slice none 0 0) 0 [] (by rfl) (World.ownsRow_nil w0 w0.heap.size 102 2) (some ⟨gd, 0, none⟩) 1 cd [.int .u64 ((0 : Nat) : Int), .int .u64 x] (by rfl) (by simp) (fun e => by cases e) ?src (by simp [Value.oneCell']) (by omega) (by omega) (Nat.le_refl _) ?_
  case src =>
    intro ad hA j u hu
    injection hA with hA
    subst hA
    rcases j with _ | _ | j
    · injection hu with hu; subst hu; exact r0
    · injection hu with hu; subst hu; exact r1
    · simp at hu
  intro A1 cl w1 hown1 hgr1 hnil1
  simp only [Nat.zero_add, List.nil_append] at hown1
  obtain ⟨gl, cl', hvL, hbgl, hgl⟩ := hown1.form (by omega)
  injection hvL with hA1 _ hcl
  subst hA1 hcl
  have hx1 : Ex w0 w1 (RedS ro tb sg (.slice (some ⟨gd, 0, none⟩) 1 cd) (.slice (some ⟨gp, 0, none⟩) 1 cp) vK) := (Ex.refl _ _).grown hgr1 (fun k hk => by cases hk)
  have hb1 : Below w0.heap.size w0 w1 := (Below.refl _ w0).grown hgr1 (Nat.le_refl _) (fun k hk => by cases hk)
  have hr1 := HH.out.kept (fun k hk => hb1.block k (HH.out.lt hk).2)
  have hd1 := HD.out.below hb1 (World.block_lt_of_cell? w0 ⟨1, 7, none⟩ HD.out)
  have c4 : w1.cell? ⟨ro, 4, none⟩ = some (.slice (some ⟨gp, 0, none⟩) 1 cp) := (hr1.c (i := 4) (by omega)).1
  have hp1 : w1.ownsRow lo 120 3 (.slice (some ⟨gp, 0, none⟩) 1 cp) 1 [.int .i64 0, .int .u64 0, .bool true] := hr1.past
  have p0 : w1.cell? ⟨gp, 0, none⟩ = some (.int .i64 0) := hp1.cellAt 0 (by omega)
  have p1 : w1.cell? ⟨gp, 1, none⟩ = some (.int .u64 0) := hp1.cellAt 1 (by omega)
  have p2 : w1.cell? ⟨gp, 2, none⟩ = some (.bool true) := hp1.cellAt 2 (by omega)
  have HX1 := Lib.hid hx1
  have HB1 := Lib.hid hb1
  have HR1 := Lib.hid hr1
  have HD1 := Lib.hid hd1
  have HOW1 := Lib.hid hown1
  have HGL := Lib.hid (And.intro hbgl hgl)
  clear hx1 hb1 hr1 hd1 hown1 hgr1 hnil1 hp1 HH HD HROW HPAST r0 r1 c2 hbgl hgl hgd hgp hbgd hbgp
  go_wp2
  refine wp_loop_rounds 2 ?_
  rw [rounds_succ]
  go_wp2
  refine wp_region_C (S := fun W => W.cell? ⟨ro, 4, none⟩ = some (.slice (some ⟨gp, 0, none⟩) 1 cp) ∧ W.cell? ⟨gp, 0, none⟩ = some (.int .i64 0) ∧ W.cell? ⟨gp, 1, none⟩ = some (.int .u64 0) ∧ W.cell? ⟨gp, 2, none⟩ = some (.bool true)) 13 (by kernel_rfl) ⟨c4, p0, p1, p2⟩ (fun hHeld => ?_)
  refine wpAnyC_take [13] (i := 0) (oi := _) (v := ?v7_0) rfl (by kernel_rfl) (by kernel_rfl) (by kernel_rfl) (by kernel_rfl) (fun _ _ _ h => h) (Or.inl ⟨by rfl, ?hy7_0⟩) (by assumption) ?rest7_0
  case hy7_0 => ((intro w hSw; (try dsimp only at hSw); go_simp); (try with_reducible rfl))
  (try simp only [Act.put, Array.getInternal_eq_getElem, List.getElem_toArray, List.getElem_cons_zero, List.getElem_cons_succ, List.setIfInBounds_toArray, List.set_cons_zero, List.set_cons_succ])
  refine wpAnyC_take [13] (i := 1) (oi := _) (v := ?v7_1) rfl (by kernel_rfl) (by kernel_rfl) (by kernel_rfl) (by kernel_rfl) (fun _ _ _ h => h) (Or.inl ⟨by rfl, ?hy7_1⟩) (by assumption) ?rest7_1
  case hy7_1 => ((intro w hSw; (try dsimp only at hSw); go_simp); (try with_reducible rfl))
  (try simp only [Act.put, Array.getInternal_eq_getElem, List.getElem_toArray, List.getElem_cons_zero, List.getElem_cons_succ, List.setIfInBounds_toArray, List.set_cons_zero, List.set_cons_succ])
  refine wpAnyC_take [13] (i := 2) (oi := _) (v := ?v7_2) rfl (by kernel_rfl) (by kernel_rfl) (by kernel_rfl) (by kernel_rfl) (fun _ _ _ h => h) (Or.inl ⟨by rfl, ?hy7_2⟩) (by assumption) ?rest7_2
  case hy7_2 => ((intro w hSw; (try dsimp only at hSw); go_simp); (try with_reducible rfl))
  (try simp only [Act.put, Array.getInternal_eq_getElem, List.getElem_toArray, List.getElem_cons_zero, List.getElem_cons_succ, List.setIfInBounds_toArray, List.set_cons_zero, List.set_cons_succ])
  refine wpAnyC_take [13] (i := 3) (oi := _) (v := ?v7_3) rfl (by kernel_rfl) (by kernel_rfl) (by kernel_rfl) (by kernel_rfl) (fun _ _ _ h => h) (Or.inl ⟨by rfl, ?hy7_3⟩) (by assumption) ?rest7_3
  case hy7_3 => ((intro w hSw; (try dsimp only at hSw); go_simp); (try with_reducible rfl))
  (try simp only [Act.put, Array.getInternal_eq_getElem, List.getElem_toArray, List.getElem_cons_zero, List.getElem_cons_succ, List.setIfInBounds_toArray, List.set_cons_zero, List.set_cons_succ])
  refine wpAnyC_take [13] (i := 4) (oi := _) (v := ?v7_4) rfl (by kernel_rfl) (by kernel_rfl) (by kernel_rfl) (by kernel_rfl) (fun _ _ _ h => h) (Or.inl ⟨by rfl, ?hy7_4⟩) (by assumption) ?rest7_4
  case hy7_4 => ((intro w hSw; (try dsimp only at hSw); go_simp); (try with_reducible rfl))
  (try simp only [Act.put, Array.getInternal_eq_getElem, List.getElem_toArray, List.getElem_cons_zero, List.getElem_cons_succ, List.setIfInBounds_toArray, List.set_cons_zero, List.set_cons_succ])
  refine wpAnyC_take [13] (i := 5) (oi := _) (v := ?v7_5) rfl (by kernel_rfl) (by kernel_rfl) (by kernel_rfl) (by kernel_rfl) (fun _ _ _ h => h) (Or.inl ⟨by rfl, ?hy7_5⟩) (by assumption) ?rest7_5
  case hy7_5 => ((intro w hSw; (try dsimp only at hSw); go_simp); (try with_reducible rfl))
  (try simp only [Act.put, Array.getInternal_eq_getElem, List.getElem_toArray, List.getElem_cons_zero, List.getElem_cons_succ, List.setIfInBounds_toArray, List.set_cons_zero, List.set_cons_succ])
  refine wpAnyC_take [13] (i := 6) (oi := _) (v := ?v7_6) rfl (by kernel_rfl) (by kernel_rfl) (by kernel_rfl) (by kernel_rfl) (fun _ _ _ h => h) (Or.inl ⟨by rfl, ?hy7_6⟩) (by assumption) ?rest7_6
  case hy7_6 => ((intro w hSw; (try dsimp only at hSw); go_simp); (try with_reducible rfl))
  (try simp only [Act.put, Array.getInternal_eq_getElem, List.getElem_toArray, List.getElem_cons_zero, List.getElem_cons_succ, List.setIfInBounds_toArray, List.set_cons_zero, List.set_cons_succ])
  refine wpAnyC_take [13] (i := 7) (oi := _) (v := ?v7_7) rfl (by kernel_rfl) (by kernel_rfl) (by kernel_rfl) (by kernel_rfl) (fun _ _ _ h => h) (Or.inl ⟨by rfl, ?hy7_7⟩) (by assumption) ?rest7_7
  case hy7_7 => ((intro w hSw; (try dsimp only at hSw); go_simp); (try with_reducible rfl))
  (try simp only [Act.put, Array.getInternal_eq_getElem, List.getElem_toArray, List.getElem_cons_zero, List.getElem_cons_succ, List.setIfInBounds_toArray, List.set_cons_zero, List.set_cons_succ])
  refine wpAnyC_take [13] (i := 8) (oi := _) (v := ?v7_8) rfl (by kernel_rfl) (by kernel_rfl) (by kernel_rfl) (by kernel_rfl) (fun _ _ _ h => h) (Or.inl ⟨by rfl, ?hy7_8⟩) (by assumption) ?rest7_8
  case hy7_8 => ((intro w hSw; (try dsimp only at hSw); go_simp); (try with_reducible rfl))
  (try simp only [Act.put, Array.getInternal_eq_getElem, List.getElem_toArray, List.getElem_cons_zero, List.getElem_cons_succ, List.setIfInBounds_toArray, List.set_cons_zero, List.set_cons_succ])
  refine wpAnyC_take [13] (i := 9) (oi := _) (v := ?v7_9) rfl (by kernel_rfl) (by kernel_rfl) (by kernel_rfl) (by kernel_rfl) (fun _ _ _ h => h) (Or.inl ⟨by rfl, ?hy7_9⟩) (by assumption) ?rest7_9
  case hy7_9 => ((intro w hSw; (try dsimp only at hSw); go_simp); (try with_reducible rfl))
  (try simp only [Act.put, Array.getInternal_eq_getElem, List.getElem_toArray, List.getElem_cons_zero, List.getElem_cons_succ, List.setIfInBounds_toArray, List.set_cons_zero, List.set_cons_succ])
  (try simp only [show IntKind.i64.wrap (0 : Int) = 0 from by decide])
  refine wpAnyC_take [13] (i := 10) (oi := _) (v := ?v7_10) rfl (by kernel_rfl) (by kernel_rfl) (by kernel_rfl) (by kernel_rfl) (fun _ _ _ h => h) (Or.inl ⟨by rfl, ?hy7_10⟩) (by assumption) ?rest7_10
  case hy7_10 => ((intro w hSw; (try dsimp only at hSw); go_simp); (try with_reducible rfl))
  (try simp only [Act.put, Array.getInternal_eq_getElem, List.getElem_toArray, List.getElem_cons_zero, List.getElem_cons_succ, List.setIfInBounds_toArray, List.set_cons_zero, List.set_cons_succ])
  refine wpAnyC_take [13] (i := 11) (oi := _) (v := ?v7_11) rfl (by kernel_rfl) (by kernel_rfl) (by kernel_rfl) (by kernel_rfl) (fun _ _ _ h => h) (Or.inl ⟨by rfl, ?hy7_11⟩) (by assumption) ?rest7_11
  case hy7_11 => ((intro w hSw; (try dsimp only at hSw); go_simp); (try with_reducible rfl))
  (try simp only [Act.put, Array.getInternal_eq_getElem, List.getElem_toArray, List.getElem_cons_zero, List.getElem_cons_succ, List.setIfInBounds_toArray, List.set_cons_zero, List.set_cons_succ])
  refine wpAnyC_one (i := 12) (o := _) (by kernel_rfl) rfl (fun K hK => ?_)
  go_simp
  refine hK.out _ _ ⟨cell_alloc hHeld.1, cell_alloc hHeld.2.1, cell_alloc hHeld.2.2.1, cell_alloc hHeld.2.2.2⟩ (fun hHeldN => ?_)
  clear hK K hHeld
  have hHeld := hHeldN
  clear hHeldN
  (try simp only [Act.put, Array.getInternal_eq_getElem, List.getElem_toArray, List.getElem_cons_zero, List.getElem_cons_succ, List.setIfInBounds_toArray, List.set_cons_zero, List.set_cons_succ])
  refine wpAnyC_last (o := _) (by kernel_rfl) rfl (fun K hK => ?_)
  go_simp
  refine hK.out _ _ ?_
  clear hK K
  refine wpAnyC_done (by kernel_rfl) ?_ _
  obtain ⟨w2, hw2⟩ : ∃ w2, w2 = (w1.alloc (.cells #[.int .i64 0, .int .u64 0, .bool true] 120)).drew := ⟨_, rfl⟩
  rw [← hw2]
  obtain ⟨N, hN⟩ : ∃ N, N = w1.heap.size := ⟨_, rfl⟩
  rw [← hN]
  have hb2 : Below w1.heap.size w1 w2 := by rw [hw2]; exact bdrewN ((Below.refl _ w1).alloc (Nat.le_refl _) _) 1
  have hs2 : w2.heap.size = N + 1 := by rw [hw2, hN]; show (World.heap (World.alloc _ _)).size = _; simp
  have hn2 : w2.heap[N]? = some (.cells #[.int .i64 0, .int .u64 0, .bool true] 120 (0, 0)) := by rw [hw2]; show (World.heap (World.alloc _ _))[_]? = _; exact heap_at _ _ _ hN.symm
  have n0 : w2.cell? ⟨N, 0, none⟩ = some (.int .i64 0) := cell_of_row w2 N 0 _ _ _ hn2
  have n2 : w2.cell? ⟨N, 2, none⟩ = some (.bool true) := cell_of_row w2 N 2 _ _ _ hn2
  have hr2 := HR1.out.kept (fun k hk => hb2.block k (HR1.out.lt hk).2)
  have hd2 := HD1.out.below hb2 (World.block_lt_of_cell? w1 ⟨1, 7, none⟩ HD1.out)
  have hx2 := HX1.out.trans (Ex.of_below hb2 (S := fun _ => False)) (fun k _ h => h.elim)
  have hown2 : w2.ownsRow w0.heap.size 102 2 (.slice (some ⟨gl, 0, none⟩) 1 cl) 1 [.int .u64 ((0 : Nat) : Int), .int .u64 x] := own_keep HOW1.out fun k hk => hb2.block k (by injection hk with hk; subst hk; exact HGL.out.2)
  have d4 : w2.cell? ⟨ro, 4, none⟩ = some (.slice (some ⟨gp, 0, none⟩) 1 cp) := (hr2.c (i := 4) (by omega)).1
  have y4 : w2.frozen? ⟨ro, 4, none⟩ = false := (hr2.c (i := 4) (by omega)).2
  have HR2 := Lib.hid hr2
  have HD2 := Lib.hid hd2
  have HX2 := Lib.hid hx2
  have HOW2 := Lib.hid hown2
  have HN := Lib.hid (And.intro hN hs2)
  have HHN := Lib.hid hn2
  clear hb2 hs2 hn2 hr2 hd2 hx2 hown2 hw2 hN HR1 HD1 HX1 HOW1 HB1 c4 p0 p1 p2 hHeld
  go_wp2
  have iw : IntKind.i64.wrap (0 : Int) = 0 := by decide
  go_still_tail 12, (by kernel_rfl)
  change wpList _ _ _ _ _ w2.drew
  have hroN : ro < N := by have := HR2.out.blk.lt.2; have h1 := HN.out.2; rcases Nat.lt_or_ge ro N with h | h
                           · exact h
                           · have e : ro = N := by omega
                             have := HR2.out.blk.cell (j := 1) (by omega)
                             rw [e, cell_of_row w2 N 1 _ _ _ HHN.out] at this
                             have h5 := this.1
                             injection h5 with h5
                             cases h5
  have hne1 : ¬ N = ro := by omega
  have hne2 : ¬ ro = N := by omega
  have HR2' : Hid (RedoR w2.drew lo ro tb sg (.slice (some ⟨gd, 0, none⟩) 1 cd) (.slice (some ⟨gp, 0, none⟩) 1 cp) vK (some (((0 : Nat) : Int), x))) := HR2.out.kept fun _ _ => rfl
  have HD2' : Hid (Deb w2.drew) := HD2.out
  have HX2' : Hid (Ex w0 w2.drew (RedS ro tb sg (.slice (some ⟨gd, 0, none⟩) 1 cd) (.slice (some ⟨gp, 0, none⟩) 1 cp) vK)) := HX2.out.drew
  have HOW2' : Hid (w2.drew.ownsRow w0.heap.size 102 2 (.slice (some ⟨gl, 0, none⟩) 1 cl) 1 [.int .u64 ((0 : Nat) : Int), .int .u64 x]) := own_keep HOW2.out fun _ _ => rfl
  replace HN : Hid (N = w1.heap.size ∧ w2.drew.heap.size = N + 1) := HN
  replace n0 : w2.drew.cell? ⟨N, 0, none⟩ = some (.int .i64 0) := n0
  replace n2 : w2.drew.cell? ⟨N, 2, none⟩ = some (.bool true) := n2
  replace d4 : w2.drew.cell? ⟨ro, 4, none⟩ = some (.slice (some ⟨gp, 0, none⟩) 1 cp) := d4
  replace y4 : w2.drew.frozen? ⟨ro, 4, none⟩ = false := y4
  replace HHN : Hid (w2.drew.heap[N]? = some (.cells #[.int .i64 0, .int .u64 0, .bool true] 120 (0, 0))) := HHN
  clear HR2 HD2 HX2 HOW2
  generalize w2.drew = w3 at *
  go_wp2
  obtain ⟨w4, hw4⟩ : ∃ w4, w4 = w3.setCell ⟨ro, 4, none⟩ (.slice (some ⟨gp, 0, none⟩) 0 cp) := ⟨_, rfl⟩
  rw [← hw4]
  have hr3 := HR2'.out
  have hro : w3.ownsRow lo 117 5 (.slice (some ⟨ro, 0, none⟩) 1 1) 1 _ := hr3.blk
  have htb : tb ≠ ro := fun e => own_apart hro (show w3.ownsRow lo 134 2 (.slice (some ⟨tb, 0, none⟩) 1 1) 1 _ from hr3.tab.blk) (by decide) rfl (by rw [e]; rfl)
  have hsg : sg ≠ ro := fun e => own_apart hro hr3.tab.row (by decide) rfl (by rw [e]; rfl)
  have hvk : vK.ownBlock ≠ some ro := own_apart hro hr3.tab.keys (by decide) rfl
  have hgp : gp ≠ ro := fun e => own_apart hro hr3.past (by decide) rfl (by rw [e]; rfl)
  have hglro : gl ≠ ro := fun e => own_apart hro HOW2'.out (by decide) rfl (by rw [e]; rfl)
  have hset4 : ∀ k, k ≠ ro → w4.heap[k]? = w3.heap[k]? := fun k hk => by rw [hw4]; exact Below.heap_setCell w3 _ _ k hk
  have hs4 : w4.heap.size = w3.heap.size := by rw [hw4]; simp
  have hb4 : Blk w4 lo 117 ro 5 (fun i => if i = 0 then .bool true else if i = 1 then .int .i64 1024 else if i = 2 then .slice (some ⟨gd, 0, none⟩) 1 cd else if i = 3 then .pointer (some ⟨tb, 0, none⟩) else .slice (some ⟨gp, 0, none⟩) 0 cp) := by
    rw [hw4]
    refine (hr3.blk.set 4 (.slice (some ⟨gp, 0, none⟩) 0 cp)).congr fun i hi => ?_
    have : i = 0 ∨ i = 1 ∨ i = 2 ∨ i = 3 ∨ i = 4 := by omega
    rcases this with rfl | rfl | rfl | rfl | rfl <;> rfl
  have ht4 : TabR w4 lo tb sg vK (some ((0 : Nat) : Int)) := by
    refine ⟨hr3.tab.blk.kept (hset4 tb htb), own_keep hr3.tab.row fun k hk => hset4 k (by injection hk with hk; subst hk; exact hsg), own_keep hr3.tab.keys fun k hk => hset4 k fun e => hvk (by rw [← e]; exact hk)⟩
  have hd4 : Deb w4 := HD2'.out.ex (S := fun k => k = ro) (by rw [hw4]; exact (Ex.refl w3 _).set ⟨ro, 4, none⟩ _ fun _ => rfl) (fun e => by have := hr3.blk.lt.1; omega)
  have hp4 : w4.ownsRow lo 120 3 (.slice (some ⟨gp, 0, none⟩) 0 cp) 0 [] := own_trunc (k := 0) (show w4.ownsRow lo 120 3 (.slice (some ⟨gp, 0, none⟩) 1 cp) 1 _ from own_keep hr3.past fun k hk => hset4 k (by injection hk with hk; subst hk; exact hgp)) (Nat.zero_le 1)
  have hl4 : w4.ownsRow w0.heap.size 102 2 (.slice (some ⟨gl, 0, none⟩) 1 cl) 1 [.int .u64 ((0 : Nat) : Int), .int .u64 x] := own_keep HOW2'.out fun k hk => hset4 k (by injection hk with hk; subst hk; exact hglro)
  have hx4 : Ex w0 w4 (RedS ro tb sg (.slice (some ⟨gd, 0, none⟩) 1 cd) (.slice (some ⟨gp, 0, none⟩) 1 cp) vK) := by rw [hw4]; exact HX2'.out.set _ _ fun _ => .inl rfl
  have e3 : w4.cell? ⟨ro, 3, none⟩ = some (.pointer (some ⟨tb, 0, none⟩)) := (hb4.cell (j := 3) (by omega)).1
  have g0 : w4.cell? ⟨gl, 0, none⟩ = some (.int .u64 0) := hl4.cellAt 0 (by omega)
  have m0 : w4.cell? ⟨N, 0, none⟩ = some (.int .i64 0) := (World.cell?_of_block (hset4 N hne1)).trans n0
  have HTK := Lib.hid (tabTake0 w4.drew (ht4.kept fun _ _ _ => rfl) (show Deb w4.drew from hd4))
  have HB4 := Lib.hid hb4
  have HP4 := Lib.hid hp4
  have HL4 := Lib.hid hl4
  have HX4 := Lib.hid hx4
  have HM0 := Lib.hid m0
  have HT4 := Lib.hid ht4
  have HHN4 := Lib.hid ((hset4 N hne1).trans HHN.out)
  have HNE := Lib.hid (And.intro htb (And.intro hsg (And.intro hvk (And.intro hgp hglro))))
  have HS4 := Lib.hid hs4
  clear hr3 hro htb hsg hvk hgp hglro hset4 hs4 hb4 ht4 hd4 hp4 hl4 hx4 hw4 HR2' HD2' HX2' HOW2' n0 n2 d4 y4
  go_still_tail 10, (by kernel_rfl)
  change wpList _ _ _ _ _ w4.drew
  go_wp2_with (go_at_call 59; refine halt_ ?_)
  refine Halt_.go ?_
  refine HTK.out.mono ?_
  rintro e w5 ⟨rfl, vK', ht5, hvk5, hx5⟩
  have hn := HNE.out
  have hb5 := (HB4.out.kept (w' := w4.drew) rfl).kept (hx5.block ro (by have := HB4.out.lt.2; exact this) (fun h => h.elim (fun e => hn.1 e.symm) (fun h => h.elim (fun e => hn.2.1 e.symm) (fun e => hn.2.2.1 e))))
  have hp5 : w5.ownsRow lo 120 3 (.slice (some ⟨gp, 0, none⟩) 0 cp) 0 [] := own_keep HP4.out fun k hk => by
    injection hk with hk
    subst hk
    refine hx5.block gp (World.ownsRow.lt HP4.out gp rfl).2 (fun h => ?_)
    rcases h with e | e | e
    · exact own_apart HP4.out (show w4.ownsRow lo 134 2 (.slice (some ⟨tb, 0, none⟩) 1 1) 1 _ from HT4.out.blk) (by decide) rfl (by rw [← e]; rfl)
    · exact own_apart HP4.out HT4.out.row (by decide) rfl (by rw [← e]; rfl)
    · exact own_apart HP4.out HT4.out.keys (by decide) rfl e
  have hl5 : w5.ownsRow w0.heap.size 102 2 (.slice (some ⟨gl, 0, none⟩) 1 cl) 1 [.int .u64 ((0 : Nat) : Int), .int .u64 x] := own_keep HL4.out fun k hk => by
    injection hk with hk
    subst hk
    refine hx5.block gl (World.ownsRow.lt HL4.out gl rfl).2 (fun h => ?_)
    rcases h with e | e | e
    · exact own_apart HL4.out (show w4.ownsRow lo 134 2 (.slice (some ⟨tb, 0, none⟩) 1 1) 1 _ from HT4.out.blk) (by decide) rfl (by rw [← e]; rfl)
    · exact own_apart HL4.out HT4.out.row (by decide) rfl (by rw [← e]; rfl)
    · exact own_apart HL4.out HT4.out.keys (by decide) rfl e
  have hNs : N < w4.drew.heap.size := by show N < w4.heap.size; have := HS4.out; have := HN.out.2; omega
  have hk5 : w5.cell? ⟨N, 0, none⟩ = some (.int .i64 0) := (hx5.cell (p := ⟨N, 0, none⟩) hNs (fun h => by
    obtain ⟨cs, fr, hh⟩ := own_cellsB (k := tb) (show w4.ownsRow lo 134 2 (.slice (some ⟨tb, 0, none⟩) 1 1) 1 _ from HT4.out.blk) rfl
    have h2 := HHN4.out
    rcases h with e | e | e
    · rw [show N = tb from e] at h2; rw [h2] at hh; injection hh with hh; injection hh with _ hh; cases hh
    · obtain ⟨cs, fr, hh⟩ := own_cellsB (k := sg) HT4.out.row rfl
      rw [show N = sg from e] at h2; rw [h2] at hh; injection hh with hh; injection hh with _ hh; cases hh
    · obtain ⟨cs, fr, hh⟩ := own_cellsB (k := N) HT4.out.keys e
      rw [h2] at hh; injection hh with hh; injection hh with _ hh; cases hh)).trans HM0.out
  have f4 : w5.cell? ⟨ro, 4, none⟩ = some (.slice (some ⟨gp, 0, none⟩) 0 cp) := (hb5.cell (j := 4) (by omega)).1
  obtain ⟨f2, z2⟩ := hb5.cell (j := 2) (by omega)
  replace f2 : w5.cell? ⟨ro, 2, none⟩ = some (.slice (some ⟨gd, 0, none⟩) 1 cd) := f2
  have HX5 := Lib.hid (HX4.out.drew.trans hx5 (fun k _ h => h.elim (fun e => .inr (.inl e)) (fun h => h.elim (fun e => .inr (.inr (.inl e))) (fun e => .inr (.inr (.inr (.inr (.inr e))))))))
  have HB5 := Lib.hid hb5
  have HP5 := Lib.hid hp5
  have HL5 := Lib.hid hl5
  have HT5 := Lib.hid ht5
  have HVK := Lib.hid hvk5
  clear hn hb5 hp5 hl5 hNs hx5 ht5 hvk5 HTK HB4 HP4 HL4 HX4 HM0 HS4 HT4 HHN4 e3 g0 m0
  go_wp2
  rw [rounds_succ]
  go_wp2
  go_ret
  have hn := HNE.out
  have hset : ∀ k, k ≠ ro → (w5.setCell ⟨ro, 2, none⟩ (.slice (some ⟨gl, 0, none⟩) 0 cl)).heap[k]? = w5.heap[k]? := fun k hk => Below.heap_setCell w5 _ _ k hk
  have ht := HT5.out
  have hvk' : vK'.ownBlock ≠ some ro := by rw [HVK.out]; exact hn.2.2.1
  refine ⟨rfl, .slice (some ⟨gl, 0, none⟩) 0 cl, .slice (some ⟨gp, 0, none⟩) 0 cp, vK', ⟨?_, ?_, ?_, ?_⟩, ⟨gl, rfl, HGL.out.1⟩, rfl, HVK.out, HX5.out.set _ _ fun _ => .inl rfl⟩
  · refine (HB5.out.set 2 (.slice (some ⟨gl, 0, none⟩) 0 cl)).congr fun i hi => ?_
    have : i = 0 ∨ i = 1 ∨ i = 2 ∨ i = 3 ∨ i = 4 := by omega
    rcases this with rfl | rfl | rfl | rfl | rfl <;> rfl
  · have h1 := own_trunc (k := 0) (own_base HL5.out hlo) (Nat.zero_le 1)
    exact own_keep h1 fun k hk => hset k (by injection hk with hk; subst hk; exact hn.2.2.2.2)
  · exact own_keep HP5.out fun k hk => hset k (by injection hk with hk; subst hk; exact hn.2.2.2.1)
  · exact ⟨ht.blk.kept (hset tb hn.1), own_keep ht.row fun k hk => hset k (by injection hk with hk; subst hk; exact hn.2.1), own_keep ht.keys fun k hk => hset k fun e => hvk' (by rw [← e]; exact hk)⟩
end
end Go.Proofs.YtomcobcmjocapaaGreatDoor
