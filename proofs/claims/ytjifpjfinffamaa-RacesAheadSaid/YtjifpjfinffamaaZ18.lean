/- Texts R8a, laid together. -/
import Derived.Test.YtjifpjfinffamaaZ8
import Derived.Test.YtjifpjfinffamaaZ13
import Derived.BigQuiet
section
namespace Go.Proofs.Ytjifpjfinffamaa
open Go.RowKit Go.Sort Go.Shelf
set_option maxRecDepth 100000 in
set_option maxHeartbeats 3200000 in
theorem cmpP_any (gV gW g N c a b : Nat) (fa fb : Int) (w : World) (hv : w.cell? ⟨gV, 0, none⟩ = some (.pointer (some ⟨gW, 0, none⟩))) (hp : w.cell? ⟨gW, 0, none⟩ = some (.slice (some ⟨g, 0, none⟩) N c))
    (ha : w.cell? ⟨g, a * 13 + 1, none⟩ = some (.int .i64 fa)) (hb : w.cell? ⟨g, b * 13 + 1, none⟩ = some (.int .i64 fb)) (ha1 : a < N) (hb1 : b < N) :
    Calls Try.prog 106 #[.int .i64 (a : Int), .int .i64 (b : Int), .pointer (some ⟨gV, 0, none⟩)] w fun e w' => e = .returned (.int .i64 (cmp3 fa fb)) ∧ ∃ q, w' = w.drewN q := by
  have i1 : (0 : Int) ≤ (a : Int) := by omega
  have i2 : (a : Int) < (N : Int) := by omega
  have i3 : (0 : Int) ≤ (b : Int) := by omega
  have i4 : (b : Int) < (N : Int) := by omega
  go_enter Try.func106, Try.ntmps106
  go_wp2
  have hcm : ∀ W, Calls Try.prog 98 #[.int .i64 fa, .int .i64 fb] W fun e w' => e = .returned (.int .i64 (cmp3 fa fb)) ∧ w' = W := fun W => cmpInt_any fa fb W
  go_quiet (first | (go_at_call 98; exact Calls.quiet_of_same (hcm _)))
  go_wp2
  go_ret
  exact ⟨rfl, _, rfl⟩
def fiC (P : List Pt) (x y : Nat) : Int := cmp3 ((ptAt P x).fi : Int) ((ptAt P y).fi : Int)
theorem fiC_lt (P : List Pt) (n : Nat) (x y : Fin n) : ltOf (fun x y : Fin n => fiC P x.val y.val) x y = decide ((ptAt P x.val).fi < (ptAt P y.val).fi) := by
  unfold ltOf fiC
  simp [cmp3_neg]
theorem fi_swo (P : List Pt) (n : Nat) : SWO (ltOf fun x y : Fin n => fiC P x.val y.val) where
  irrefl x := by rw [fiC_lt]; simp
  trans x y z h1 h2 := by
    rw [fiC_lt] at *
    have := of_decide_eq_true h1
    have := of_decide_eq_true h2
    exact decide_eq_true (by omega)
  ntrans x y z h1 h2 := by
    rw [fiC_lt] at *
    have := of_decide_eq_false h1
    have := of_decide_eq_false h2
    exact decide_eq_false (by omega)
theorem sort_pts {w : World} {base base2 gV gW c ca : Nat} {Ao : Option Addr} {P : List Pt} {sn : Nat → Nat → Nat} {tn : Nat → Nat} {Ap : Option Addr}
    (hinj : ∀ p q, p < P.length → q < P.length → (ptAt P p).fi = (ptAt P q).fi → p = q)
    (hv : w.cell? ⟨gV, 0, none⟩ = some (.pointer (some ⟨gW, 0, none⟩))) (hp : w.cell? ⟨gW, 0, none⟩ = some (.slice Ap P.length c)) (hP : PM w base Ap c P sn tn)
    (ho : OwnI w base2 Ao ca (lks (List.range P.length))) (hb : ∀ k, w.heap.size ≤ k ∨ k < base2 ∨ k ≠ gV ∧ k ≠ gW ∧ Ap ≠ some ⟨k, 0, none⟩) (hn1 : P.length ≤ 1099511627776) :
    Calls Try.prog 94 #[.slice Ao P.length ca, .func (.func 106) #[] #[.pointer (some ⟨gV, 0, none⟩)]] w fun e w' =>
      e = .returned (.tuple #[]) ∧ ∃ s : List Nat, (∀ p, p ∈ s ↔ p < P.length) ∧ s.Pairwise (fun a b => (ptAt P a).fi < (ptAt P b).fi) ∧ s.length = P.length ∧ OwnI w' base2 Ao ca (lks s) ∧ w.grownBy w' (Value.slice Ao P.length ca).ownBlock := by
  rcases Nat.eq_zero_or_pos P.length with h0 | h0
  · rw [h0] at ho ⊢
    have hc := AnyF.slices_SortFunc_none (P := Try.prog) (ρ := lays94_ren) { lays94 with } Ao ca (.func (.func 106) #[] #[.pointer (some ⟨gV, 0, none⟩)]) w
    refine Calls.mono hc ?_
    rintro e w' ⟨rfl, rfl⟩
    exact ⟨rfl, [], fun p => by simp, List.Pairwise.nil, rfl, ho, World.grownBy.refl _ _⟩
  · obtain ⟨d, hd'⟩ := fin_list P.length (List.range P.length) (fun x hx => List.mem_range.1 hx)
    have hdl : d.length = P.length := by
      have := congrArg List.length hd'
      simpa using this
    haveI : Inhabited (Fin P.length) := ⟨⟨0, h0⟩⟩
    have hfrm := PM.form hP h0
    obtain ⟨g, hAg, hg1, hg2⟩ := hfrm
    subst hAg
    obtain ⟨ga, capg, hv', hbg, hlt⟩ := ho.form (by rw [lks_len]; simpa using h0)
    have hA : Ao = some ⟨ga, 0, none⟩ := by injection hv'
    subst hA
    obtain ⟨n1, n2, n3⟩ : ga ≠ gV ∧ ga ≠ gW ∧ ga ≠ g := by
      rcases hb ga with h | h | ⟨h1, h2, h3⟩
      · omega
      · omega
      · exact ⟨h1, h2, fun e => h3 (by rw [e])⟩
    have hV := World.block_lt_of_cell? w ⟨gV, 0, none⟩ hv
    have hW := World.block_lt_of_cell? w ⟨gW, 0, none⟩ hp
    have hcmp : CmpReads Try.prog 106 #[.pointer (some ⟨gV, 0, none⟩)] (encF P.length) (fun x y : Fin P.length => fiC P x.val y.val) ga 0 d.toArray.size w := by
      intro m os dk _ x y
      have hcell : ∀ (p : Addr) v, p.block ≠ ga → w.cell? p = some v → (sortWorld (encF P.length) w ga 0 m dk os).cell? p = some v := fun p v hne hc => (World.cell?_of_block (w := w) (sortWorld_old w ga m dk os (World.block_lt_of_cell? w p hc) hne)).trans hc
      refine Calls.mono (cmpP_any gV gW g P.length c x.val y.val ((ptAt P x.val).fi : Int) ((ptAt P y.val).fi : Int) _ (hcell ⟨gV, 0, none⟩ _ (Ne.symm n1) hv) (hcell ⟨gW, 0, none⟩ _ (Ne.symm n2) hp)
        (hcell ⟨g, x.val * 13 + 1, none⟩ _ (Ne.symm n3) (hP.at0 x.isLt).2.1) (hcell ⟨g, y.val * 13 + 1, none⟩ _ (Ne.symm n3) (hP.at0 y.isLt).2.1) x.isLt y.isLt) ?_
      rintro e w' ⟨rfl, q, rfl⟩
      exact ⟨rfl, q, rfl⟩
    have hH : Holds (encF P.length) w ga 0 d.toArray := by
      intro j hj
      have hj' : j < d.length := by simpa using hj
      refine ⟨?_, by rw [Nat.zero_add]; exact ho.frozenAt j⟩
      rw [Nat.zero_add, ho.cellAt j (by rw [lks_len]; simp; omega), getElem!_pos d.toArray j hj]
      have : (List.range P.length)[j]? = some (d[j]).val := by rw [← hd']; simp [hj']
      have h2 : j = (d[j]).val := by
        rw [List.getElem?_range (by omega)] at this
        exact Option.some.inj this
      simp [ints, lks, encF, ← h2]
      exact ⟨j, List.getElem?_range (by omega), rfl⟩
    have hsw := fi_swo P P.length
    have hpt : ∀ x y : Fin P.length, ltOf (fun x y : Fin P.length => fiC P x.val y.val) x y = false → ltOf (fun x y : Fin P.length => fiC P x.val y.val) y x = false → x = y := by
      intro x y h1 h2
      rw [fiC_lt] at h1 h2
      have := of_decide_eq_false h1
      have := of_decide_eq_false h2
      exact Fin.ext (hinj _ _ x.isLt y.isLt (by omega))
    have eg : ∀ args w, (callFunc 106 args).run Try.prog w = .ok (.enter 106 args) w := enters_of Try.func106 (by kernel_rfl) rfl
    have hc := Any.slices_SortFunc_total lays94 (encF P.length) (fun _ => rfl) (fun x y : Fin P.length => fiC P x.val y.val) hsw 106 #[.pointer (some ⟨gV, 0, none⟩)] ga 0 ca d.toArray w eg hcmp.lays hH hlt (by simp; omega) hpt
    have hsz : d.toArray.size = P.length := by simpa using hdl
    rw [hsz] at hc
    refine Calls.mono hc ?_
    rintro e w' ⟨rfl, m, os, rfl⟩
    have hlen : ((d.toArray.toList.mergeSort fun x y => !(ltOf fun x y : Fin P.length => fiC P x.val y.val) y x).toArray).size = (lks (List.range P.length)).length := by
      rw [List.size_toArray, List.length_mergeSort, lks_len]
      simp [hdl]
    have hw := sortWorld_own (m := m) ho _ hlen os
    obtain ⟨S, hS⟩ : ∃ S, S = (d.mergeSort fun x y => !(ltOf fun x y : Fin P.length => fiC P x.val y.val) y x) := ⟨_, rfl⟩
    have hSp : S.Perm d := by rw [hS]; exact List.mergeSort_perm d _
    have hSs : S.Pairwise (fun x y => (!(ltOf fun x y : Fin P.length => fiC P x.val y.val) y x) = true) := by
      rw [hS]
      refine List.pairwise_mergeSort (fun a b c h1 h2 => ?_) (fun a b => ?_) d
      · simp only [Bool.not_eq_true'] at h1 h2 ⊢
        exact hsw.ntrans _ _ _ h2 h1
      · simp only [Bool.or_eq_true, Bool.not_eq_true']
        rw [fiC_lt, fiC_lt]
        by_cases h : (ptAt P b.val).fi < (ptAt P a.val).fi
        · exact .inr (decide_eq_false (by omega))
        · exact .inl (decide_eq_false h)
    have hdn : (d.map Fin.val).Nodup := by rw [hd']; exact List.nodup_range
    have hSv : (S.map Fin.val).Perm (List.range P.length) := by rw [← hd']; exact hSp.map _
    have hSn : (S.map Fin.val).Nodup := hSv.nodup_iff.2 List.nodup_range
    refine ⟨rfl, S.map Fin.val, fun p => by rw [hSv.mem_iff]; exact List.mem_range, ?_, by rw [hSv.length_eq, List.length_range], ?_, hw.2⟩
    · rw [List.pairwise_map]
      have hne : S.Pairwise (fun x y => x ≠ y) := by
        have := hSn
        unfold List.Nodup at this
        rw [List.pairwise_map] at this
        exact this.imp fun h e => h (by rw [e])
      refine (List.Pairwise.and hSs hne).imp ?_
      rintro x y ⟨h1, h2⟩
      simp only [Bool.not_eq_true'] at h1
      rw [fiC_lt] at h1
      have h3 := of_decide_eq_false h1
      have h4 : (ptAt P x.val).fi ≠ (ptAt P y.val).fi := fun e => h2 (Fin.ext (hinj _ _ x.isLt y.isLt e))
      omega
    · have h1 := hw.1
      rw [hS]
      exact h1
end Go.Proofs.Ytjifpjfinffamaa
end
