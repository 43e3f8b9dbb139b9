/- Index, Delete, at one key. -/
import Derived.Test.YtomcobcmjocapaaGreatDoorCC
import Derived.Deep.Upon
set_option linter.unusedSimpArgs false
namespace Go.Proofs.YtomcobcmjocapaaGreatDoor
open Go.RowKit Go.MuLone
set_option maxRecDepth 100000 in
set_option maxHeartbeats 1600000 in
theorem index1 (w : World) (gk ck : Nat) (x : Int) (h : w.cell? ⟨gk, 0, none⟩ = some (.int .u64 x)) :
    Calls Tryz.prog 72 #[.slice (some ⟨gk, 0, none⟩) 1 ck, .int .u64 x] w fun e w' => e = .returned (.int .i64 0) ∧ w' = w := by
  go_enter Tryz.func72, Tryz.ntmps72
  go_wp2
  refine wp_loop_once ?_
  go_wp2
  go_ret
  exact ⟨rfl, rfl⟩
theorem own_trunc {w : World} {base e s n c g : Nat} {xs : List Value} (h : w.ownsRow base e s (.slice (some ⟨g, 0, none⟩) n c) n xs) {k : Nat} (hk : k ≤ n) :
    w.ownsRow base e s (.slice (some ⟨g, 0, none⟩) k c) k (xs.take (k * s)) := by
  rcases (show _ ∨ _ from h.2) with h2 | ⟨g0, cap', cur, hv, hbg, hh, h3, h4, h5, h6⟩
  · exact absurd h2.1 (by intro hh; injection hh with hh; cases hh)
  · injection hv with hv1 _ hv3
    injection hv1 with hv1
    injection hv1 with hv1
    subst hv1 hv3
    have hl := h.1
    have hks : k * s ≤ n * s := Nat.mul_le_mul_right s hk
    refine ⟨by rw [List.length_take]; omega, .inr ⟨g, c, cur, rfl, hbg, hh, by omega, h4, h5, ?_⟩⟩
    rw [← h6, List.take_take, Nat.min_eq_left hks]
theorem zero23 (w : World) : (zeroValue 23).run Tryz.prog w = .ok (.int .u64 0) w := by kernel_rfl
theorem app0 (gk ck : Nat) (ty : TypeId) (W : World) : (Builtin.append_ #[22, 22] ty #[.slice (some ⟨gk, 0, none⟩) 0 ck, .slice (some ⟨gk, 1, none⟩) 0 (ck - 1)]).run Tryz.prog W = .ok (.slice (some ⟨gk, 0, none⟩) 0 ck) W := by
  obtain ⟨i, hi, hz, hsize, hby⟩ := info_parts info23
  exact run_append_nothing W 22 22 ty 23 i Tryz.underlying22 hi (some ⟨gk, 0, none⟩) 0 ck (Nat.zero_le _) _ (Src.ofSlice W Tryz.underlying22 ⟨gk, 1, none⟩ 0 (ck - 1) [] (by simp) (by simp) (by simp))
set_option maxRecDepth 100000 in
set_option maxHeartbeats 1600000 in
theorem delete1 (w : World) (lo gk ck : Nat) (x : Int) (h : w.ownsRow lo 23 1 (.slice (some ⟨gk, 0, none⟩) 1 ck) 1 [.int .u64 x]) :
    Calls Tryz.prog 73 #[.slice (some ⟨gk, 0, none⟩) 1 ck, .int .i64 0, .int .i64 1] w fun e w' => e = .returned (.slice (some ⟨gk, 0, none⟩) 0 ck) ∧ w'.ownsRow lo 23 1 (.slice (some ⟨gk, 0, none⟩) 0 ck) 0 [] ∧ Ex w w' (fun k => k = gk) := by
  have hc := (own_cap h).1
  have hap := app0 gk ck
  have HR := Lib.hid h
  have hcell : w.cell? ⟨gk, 0, none⟩ = some (.int .u64 x) := h.cellAt 0 (by simp)
  have hfz := h.frozenAt 0
  have hcl : ∀ ty, (Builtin.clear_ #[22] ty #[.slice (some ⟨gk, 0, none⟩) 1 ck]).run Tryz.prog w.drew = .ok (.tuple #[]) (w.drew.setCell ⟨gk, 0, none⟩ (.int .u64 0)) := by
    intro ty
    refine Lib.run_clear_slice w.drew 22 23 ty (.int .u64 0) Tryz.underlying22 zero23 rfl rfl gk 0 1 ck (by omega) (fun j hj => ?_) (fun j hj => ?_)
    · have e : j = 0 := by omega
      subst e
      show (w.cell? ⟨gk, 0, none⟩).isSome = true
      rw [hcell]
      rfl
    · have e : j = 0 := by omega
      subst e
      exact hfz
  clear h hcell hfz
  by_cases hck : ck = 1
  · subst hck
    go_enter Tryz.func73, Tryz.ntmps73
    go_wp2
    refine wp_region_C (S := fun _ => True) 7 (by kernel_rfl) trivial (fun hHeld => ?_)
    refine wpAnyC_any (i := 0) (oi := _) (v := ?v5_0) rfl (by kernel_rfl) (by kernel_rfl) (by kernel_rfl) (by kernel_rfl) (fun _ _ _ h => h) (Or.inl ⟨by rfl, ?hy5_0⟩) (fun _ => by assumption) ?rest5_0
    case hy5_0 => ((intro w _; go_simp); (try with_reducible rfl))
    (try simp only [Act.put, Array.getInternal_eq_getElem, List.getElem_toArray, List.getElem_cons_zero, List.getElem_cons_succ, List.setIfInBounds_toArray, List.set_cons_zero, List.set_cons_succ])
    refine wpAnyC_any (i := 1) (oi := _) (v := ?v5_1) rfl (by kernel_rfl) (by kernel_rfl) (by kernel_rfl) (by kernel_rfl) (fun _ _ _ h => h) (Or.inl ⟨by rfl, ?hy5_1⟩) (fun _ => by assumption) ?rest5_1
    case hy5_1 => ((intro w _; go_simp); (try with_reducible rfl))
    (try simp only [Act.put, Array.getInternal_eq_getElem, List.getElem_toArray, List.getElem_cons_zero, List.getElem_cons_succ, List.setIfInBounds_toArray, List.set_cons_zero, List.set_cons_succ])
    refine wpAnyC_any (i := 2) (oi := _) (v := ?v5_2) rfl (by kernel_rfl) (by kernel_rfl) (by kernel_rfl) (by kernel_rfl) (fun _ _ _ h => h) (Or.inl ⟨by rfl, ?hy5_2⟩) (fun _ => by assumption) ?rest5_2
    case hy5_2 => ((intro w _; go_simp); (try with_reducible rfl))
    (try simp only [Act.put, Array.getInternal_eq_getElem, List.getElem_toArray, List.getElem_cons_zero, List.getElem_cons_succ, List.setIfInBounds_toArray, List.set_cons_zero, List.set_cons_succ])
    refine wpAnyC_any (i := 3) (oi := _) (v := ?v5_3) rfl (by kernel_rfl) (by kernel_rfl) (by kernel_rfl) (by kernel_rfl) (fun _ _ _ h => h) (Or.inl ⟨by rfl, ?hy5_3⟩) (fun _ => by assumption) ?rest5_3
    case hy5_3 => ((intro w _; go_simp); (try with_reducible rfl))
    (try simp only [Act.put, Array.getInternal_eq_getElem, List.getElem_toArray, List.getElem_cons_zero, List.getElem_cons_succ, List.setIfInBounds_toArray, List.set_cons_zero, List.set_cons_succ])
    refine wpAnyC_any (i := 4) (oi := _) (v := ?v5_4) rfl (by kernel_rfl) (by kernel_rfl) (by kernel_rfl) (by kernel_rfl) (fun _ _ _ h => h) (Or.inl ⟨by rfl, ?hy5_4⟩) (fun _ => by assumption) ?rest5_4
    case hy5_4 => ((intro w _; go_simp); (try with_reducible rfl))
    (try simp only [Act.put, Array.getInternal_eq_getElem, List.getElem_toArray, List.getElem_cons_zero, List.getElem_cons_succ, List.setIfInBounds_toArray, List.set_cons_zero, List.set_cons_succ])
    refine wpAnyC_any (i := 5) (oi := _) (v := ?v5_5) rfl (by kernel_rfl) (by kernel_rfl) (by kernel_rfl) (by kernel_rfl) (fun _ _ _ h => h) (Or.inl ⟨by rfl, ?hy5_5⟩) (fun _ => by assumption) ?rest5_5
    case hy5_5 => ((intro w _; go_simp); (try with_reducible rfl))
    (try simp only [Act.put, Array.getInternal_eq_getElem, List.getElem_toArray, List.getElem_cons_zero, List.getElem_cons_succ, List.setIfInBounds_toArray, List.set_cons_zero, List.set_cons_succ])
    refine wpAnyC_one (i := 6) (o := _) (by kernel_rfl) rfl (fun K hK => ?_)
    go_simp
    (try simp only [if_neg hck, if_true, Sem.run_pure, Result.andThen_ok, Oper.upon_value])
    refine hK.out _ _ trivial (fun hHeldN => ?_)
    clear hK K hHeld
    have hHeld := hHeldN
    clear hHeldN
    (try simp only [Act.put, Array.getInternal_eq_getElem, List.getElem_toArray, List.getElem_cons_zero, List.getElem_cons_succ, List.setIfInBounds_toArray, List.set_cons_zero, List.set_cons_succ])
    refine wpAnyC_last (o := _) (by kernel_rfl) rfl (fun K hK => ?_)
    go_simp
    refine hK.out _ _ ?_
    clear hK K
    refine wpAnyC_done (by kernel_rfl) ?_ _
    go_wp2_with (simp only [hcl])
    go_ret
    refine ⟨rfl, ?_, ?_⟩
    · have h1 := (World.ownsRow.stored HR.out 0 (.int .u64 0)).1
      have h2 := own_trunc h1 (Nat.zero_le 1)
      exact own_keep h2 fun _ _ => rfl
    · exact ((Ex.refl w _).drew.set ⟨gk, 0, none⟩ _ fun _ => rfl)
  · skip
    go_enter Tryz.func73, Tryz.ntmps73
    go_wp2
    refine wp_region_C (S := fun _ => True) 7 (by kernel_rfl) trivial (fun hHeld => ?_)
    refine wpAnyC_any (i := 0) (oi := _) (v := ?v6_0) rfl (by kernel_rfl) (by kernel_rfl) (by kernel_rfl) (by kernel_rfl) (fun _ _ _ h => h) (Or.inl ⟨by rfl, ?hy6_0⟩) (fun _ => by assumption) ?rest6_0
    case hy6_0 => ((intro w _; go_simp); (try with_reducible rfl))
    (try simp only [Act.put, Array.getInternal_eq_getElem, List.getElem_toArray, List.getElem_cons_zero, List.getElem_cons_succ, List.setIfInBounds_toArray, List.set_cons_zero, List.set_cons_succ])
    refine wpAnyC_any (i := 1) (oi := _) (v := ?v6_1) rfl (by kernel_rfl) (by kernel_rfl) (by kernel_rfl) (by kernel_rfl) (fun _ _ _ h => h) (Or.inl ⟨by rfl, ?hy6_1⟩) (fun _ => by assumption) ?rest6_1
    case hy6_1 => ((intro w _; go_simp); (try with_reducible rfl))
    (try simp only [Act.put, Array.getInternal_eq_getElem, List.getElem_toArray, List.getElem_cons_zero, List.getElem_cons_succ, List.setIfInBounds_toArray, List.set_cons_zero, List.set_cons_succ])
    refine wpAnyC_any (i := 2) (oi := _) (v := ?v6_2) rfl (by kernel_rfl) (by kernel_rfl) (by kernel_rfl) (by kernel_rfl) (fun _ _ _ h => h) (Or.inl ⟨by rfl, ?hy6_2⟩) (fun _ => by assumption) ?rest6_2
    case hy6_2 => ((intro w _; go_simp); (try with_reducible rfl))
    (try simp only [Act.put, Array.getInternal_eq_getElem, List.getElem_toArray, List.getElem_cons_zero, List.getElem_cons_succ, List.setIfInBounds_toArray, List.set_cons_zero, List.set_cons_succ])
    refine wpAnyC_any (i := 3) (oi := _) (v := ?v6_3) rfl (by kernel_rfl) (by kernel_rfl) (by kernel_rfl) (by kernel_rfl) (fun _ _ _ h => h) (Or.inl ⟨by rfl, ?hy6_3⟩) (fun _ => by assumption) ?rest6_3
    case hy6_3 => ((intro w _; go_simp); (try with_reducible rfl))
    (try simp only [Act.put, Array.getInternal_eq_getElem, List.getElem_toArray, List.getElem_cons_zero, List.getElem_cons_succ, List.setIfInBounds_toArray, List.set_cons_zero, List.set_cons_succ])
    refine wpAnyC_any (i := 4) (oi := _) (v := ?v6_4) rfl (by kernel_rfl) (by kernel_rfl) (by kernel_rfl) (by kernel_rfl) (fun _ _ _ h => h) (Or.inl ⟨by rfl, ?hy6_4⟩) (fun _ => by assumption) ?rest6_4
    case hy6_4 => ((intro w _; go_simp); (try with_reducible rfl))
    (try simp only [Act.put, Array.getInternal_eq_getElem, List.getElem_toArray, List.getElem_cons_zero, List.getElem_cons_succ, List.setIfInBounds_toArray, List.set_cons_zero, List.set_cons_succ])
    refine wpAnyC_any (i := 5) (oi := _) (v := ?v6_5) rfl (by kernel_rfl) (by kernel_rfl) (by kernel_rfl) (by kernel_rfl) (fun _ _ _ h => h) (Or.inl ⟨by rfl, ?hy6_5⟩) (fun _ => by assumption) ?rest6_5
    case hy6_5 => ((intro w _; go_simp); (try with_reducible rfl))
    (try simp only [Act.put, Array.getInternal_eq_getElem, List.getElem_toArray, List.getElem_cons_zero, List.getElem_cons_succ, List.setIfInBounds_toArray, List.set_cons_zero, List.set_cons_succ])
    refine wpAnyC_one (i := 6) (o := _) (by kernel_rfl) rfl (fun K hK => ?_)
    go_simp
    (try simp only [if_neg hck, if_true, Sem.run_pure, Result.andThen_ok, Oper.upon_value])
    refine hK.out _ _ trivial (fun hHeldN => ?_)
    clear hK K hHeld
    have hHeld := hHeldN
    clear hHeldN
    (try simp only [Act.put, Array.getInternal_eq_getElem, List.getElem_toArray, List.getElem_cons_zero, List.getElem_cons_succ, List.setIfInBounds_toArray, List.set_cons_zero, List.set_cons_succ])
    refine wpAnyC_last (o := _) (by kernel_rfl) rfl (fun K hK => ?_)
    go_simp
    refine hK.out _ _ ?_
    clear hK K
    refine wpAnyC_done (by kernel_rfl) ?_ _
    go_wp2_with (simp only [hcl])
    go_ret
    refine ⟨rfl, ?_, ?_⟩
    · have h1 := (World.ownsRow.stored HR.out 0 (.int .u64 0)).1
      have h2 := own_trunc h1 (Nat.zero_le 1)
      exact own_keep h2 fun _ _ => rfl
    · exact ((Ex.refl w _).drew.set ⟨gk, 0, none⟩ _ fun _ => rfl)
end Go.Proofs.YtomcobcmjocapaaGreatDoor
