/- Walk: witness.order [61]. -/
import Derived.Test.YtjifpjfinffamaaYE
import Derived.Test.YtjifpjfinffamaaYD
import Derived.Test.YtjifpjfinffamaaSR
namespace Go.Proofs.Ytjifpjfinffamaa
open Go.RowKit Go.Sort Go.Shelf

def encF (n : Nat) (x : Fin n) : Value := .int .i64 (x.val : Int)
theorem putRow_fin {n : Nat} [Inhabited (Fin n)] (w : World) (g : Nat) (ys : Array (Fin n)) : putRow (encF n) w g 0 ys = putRow (Value.int .i64) w g 0 (lks (ys.toList.map Fin.val)).toArray := by
  unfold putRow putCells
  congr 1
  funext c
  have hs : (lks (ys.toList.map Fin.val)).toArray.size = ys.size := by simp [lks]
  congr 1
  funext k x
  rw [hs]
  by_cases h : 0 ≤ k ∧ k < 0 + ys.size
  · have hk : k < ys.size := by omega
    rw [if_pos h, if_pos h, Nat.sub_zero, getElem!_pos ys k hk, getElem!_pos (lks (ys.toList.map Fin.val)).toArray k (by rw [hs]; exact hk)]
    simp [encF, lks]
  · rw [if_neg h, if_neg h]
theorem sortWorld_old {n : Nat} [Inhabited (Fin n)] (w : World) (g m : Nat) (dk : Array (Fin n)) (os : Array Obj) {k : Nat} (hk : k < w.heap.size) (hne : k ≠ g) : (sortWorld (encF n) w g 0 m dk os).heap[k]? = w.heap[k]? := by
  unfold sortWorld
  have hsz : (putRow (encF n) (Sort.ahead w m) g 0 dk).heap.size = w.heap.size := by simp [putRow, mapBlock, Sort.ahead]
  rw [grow_old _ _ (by rw [hsz]; exact hk)]
  simp [putRow, mapBlock, Sort.ahead, Array.getElem?_modify, Ne.symm hne]
theorem sortWorld_own {w : World} {base g c n m : Nat} [Inhabited (Fin n)] {zs : List Int} (h : OwnI w base (some ⟨g, 0, none⟩) c zs) (ys : Array (Fin n)) (hl : ys.size = zs.length) (os : Array Obj) :
    OwnI (sortWorld (encF n) w g 0 m ys os) base (some ⟨g, 0, none⟩) c (lks (ys.toList.map Fin.val)) ∧ w.grownBy (sortWorld (encF n) w g 0 m ys os) (some g) := by
  unfold sortWorld
  rw [putRow_fin]
  exact sort_world h (by simp [lks, hl]) m os
theorem fin_list (n : Nat) : ∀ L : List Nat, (∀ x ∈ L, x < n) → ∃ d : List (Fin n), d.map Fin.val = L
  | [], _ => ⟨[], rfl⟩
  | a :: r, h => by
    obtain ⟨d, hd⟩ := fin_list n r (fun x hx => h x (List.mem_cons_of_mem _ hx))
    exact ⟨⟨a, h a List.mem_cons_self⟩ :: d, by simp [hd]⟩
def fltB (bl : List Bl) (q : Nat) : List Nat := (List.range q).filter fun i => OverB (blAt bl i)
theorem fltB_succ (bl : List Bl) (q : Nat) : fltB bl (q + 1) = if OverB (blAt bl q) = true then fltB bl q ++ [q] else fltB bl q := by
  unfold fltB
  rw [List.range_succ, List.filter_append]
  by_cases h : OverB (blAt bl q) = true <;> simp [h]
theorem fltB_len (bl : List Bl) (q : Nat) : (fltB bl q).length ≤ q := by
  have := List.length_filter_le (fun i => OverB (blAt bl i)) (List.range q)
  simpa [fltB] using this
theorem fltB_lt {bl : List Bl} {q x : Nat} (h : x ∈ fltB bl q) : x < q := List.mem_range.1 (List.mem_filter.1 h).1

/-- the comparison, in every world that the sort passes through -/
theorem cmp_lays {w w1 : World} {base : Nat} {gB cb gl cl g n : Nat} [Inhabited (Fin n)] {bl : List Bl} {hd : Nat → Value} {lk : List Nat} (h : BLk w1 base (some ⟨gB, 0, none⟩) cb bl hd (some ⟨gl, 0, none⟩) cl lk) (hl : lk.length = bl.length) (hn : n = bl.length) (hb : Below w1.heap.size w1 w)
    {B1 B2 B3 : Nat} (hb1 : w.cell? ⟨B1, 0, none⟩ = some (.slice (some ⟨gB, 0, none⟩) n cb)) (hb2 : w.cell? ⟨B2, 0, none⟩ = some (.func (.func 93) #[] #[.pointer (some ⟨B1, 0, none⟩)])) (hb3 : w.cell? ⟨B3, 0, none⟩ = some (.slice (some ⟨gl, 0, none⟩) n cl))
    (hg1 : B1 ≠ g) (hg2 : B2 ≠ g) (hg3 : B3 ≠ g) (hg : w1.heap.size ≤ g) (h1 : B1 < w.heap.size) (h2 : B2 < w.heap.size) (h3 : B3 < w.heap.size) (size : Nat) :
    CmpLays1 Try.prog 95 #[.pointer (some ⟨B1, 0, none⟩), .pointer (some ⟨B2, 0, none⟩), .pointer (some ⟨B3, 0, none⟩)] (encF n) (fun x y : Fin n => cfB bl lk x.val y.val) g 0 size w := by
  intro m os dk _ x y
  have hcell : ∀ (p : Addr) v, p.block < w.heap.size → p.block ≠ g → w.cell? p = some v → (sortWorld (encF n) w g 0 m dk os).cell? p = some v := fun p v hp hne hc => (World.cell?_of_block (w := w) (sortWorld_old w g m dk os hp hne)).trans hc
  have hBS : Below w1.heap.size w1 (sortWorld (encF n) w g 0 m dk os) := by
    refine ⟨?_, ?_, ?_, ?_, fun k hk => (sortWorld_old w g m dk os (by have := hb.size; omega) (by omega)).trans (hb.block k hk)⟩
    · exact hb.os
    · exact hb.tape
    · exact hb.output
    · have := hb.size
      simp [sortWorld, grow, putRow, mapBlock, Sort.ahead]
      omega
  obtain ⟨g', gl', Ar, nr, cr, At, nt, ct, hA, hAl, _, _, hci, hli⟩ := h.at_ hl (Nat.le_refl _) hBS (i := x.val) (by have := x.isLt; omega)
  obtain ⟨g'', gl'', Ar', nr', cr', At', nt', ct', hA', hAl', _, _, hck, hlk⟩ := h.at_ hl (Nat.le_refl _) hBS (i := y.val) (by have := y.isLt; omega)
  injection hA with hA
  injection hA with hA
  injection hAl with hAl
  injection hAl with hAl
  injection hA' with hA'
  injection hA' with hA'
  injection hAl' with hAl'
  injection hAl' with hAl'
  subst hA hAl hA' hAl'
  have hc := cmpF_any B1 B2 B3 gB gl x.val y.val n cb cl (blAt bl x.val) (blAt bl y.val) _ _ _ _ _ _ _ (hcell ⟨B1, 0, none⟩ _ h1 hg1 hb1) (hcell ⟨B2, 0, none⟩ _ h2 hg2 hb2) (hcell ⟨B3, 0, none⟩ _ h3 hg3 hb3) x.isLt y.isLt hci hck hli hlk
  refine Calls.mono hc ?_
  rintro e w' ⟨rfl, rfl⟩
  refine ⟨by rw [orV_cfB], 1, #[.cells #[.int .i64 (cmp3 (blAt bl x.val).num (blAt bl y.val).num), .int .i64 (cmp3 (fstB (blAt bl x.val)) (fstB (blAt bl y.val))), .int .i64 (cmp3 (lk.getD x.val 0 : Nat) (lk.getD y.val 0 : Nat))] 3], ?_⟩
  rw [alloc_eq_grow]
  rfl
/-- the sort of the places -/
theorem sort_places {w w1 : World} {base base2 : Nat} {cb cl c n : Nat} {Ab Al Ao : Option Addr} {bl : List Bl} {hd : Nat → Value} {lk : List Nat} (h : BLk w1 base Ab cb bl hd Al cl lk) (hl : lk.length = bl.length) (hn : n = bl.length) (hP : PartL lk n) (hb : Below w1.heap.size w1 w) (hn1 : n ≤ 1099511627776)
    {B1 B2 B3 : Nat} (hb1 : w.cell? ⟨B1, 0, none⟩ = some (.slice Ab n cb)) (hb2 : w.cell? ⟨B2, 0, none⟩ = some (.func (.func 93) #[] #[.pointer (some ⟨B1, 0, none⟩)])) (hb3 : w.cell? ⟨B3, 0, none⟩ = some (.slice Al n cl))
    (ho : OwnI w base2 Ao c (lks (fltB bl n))) (hg1 : (Value.slice Ao (lks (fltB bl n)).length c).ownBlock ≠ some B1) (hg2 : (Value.slice Ao (lks (fltB bl n)).length c).ownBlock ≠ some B2) (hg3 : (Value.slice Ao (lks (fltB bl n)).length c).ownBlock ≠ some B3) (hge : w1.heap.size ≤ base2) (h1 : B1 < w.heap.size) (h2 : B2 < w.heap.size) (h3 : B3 < w.heap.size) :
    Calls Try.prog 94 #[.slice Ao (fltB bl n).length c, .func (.func 95) #[] #[.pointer (some ⟨B1, 0, none⟩), .pointer (some ⟨B2, 0, none⟩), .pointer (some ⟨B3, 0, none⟩)]] w fun e w' =>
      e = .returned (.tuple #[]) ∧ OwnI w' base2 Ao c (lks (ordS bl lk n)) ∧ w.grownBy w' (Value.slice Ao (lks (fltB bl n)).length c).ownBlock := by
  rcases Nat.eq_zero_or_pos (fltB bl n).length with h0 | h0
  · have hf : fltB bl n = [] := List.eq_nil_of_length_eq_zero h0
    have hor : ordS bl lk n = [] := by
      have := (ordS_perm bl lk n).length_eq
      exact List.eq_nil_of_length_eq_zero (by rw [this]; exact h0)
    rw [h0]
    have hc := AnyF.slices_SortFunc_none (P := Try.prog) (ρ := lays94_ren) { lays94 with } Ao c (.func (.func 95) #[] #[.pointer (some ⟨B1, 0, none⟩), .pointer (some ⟨B2, 0, none⟩), .pointer (some ⟨B3, 0, none⟩)]) w
    refine Calls.mono hc ?_
    rintro e w' ⟨rfl, rfl⟩
    refine ⟨rfl, ?_, World.grownBy.refl _ _⟩
    rw [hor, ← hf]
    exact ho
  · obtain ⟨d, hd'⟩ := fin_list n (fltB bl n) (fun x hx => fltB_lt hx)
    have hdl : d.length = (fltB bl n).length := by rw [← hd']; simp
    obtain ⟨x0, hx0⟩ : ∃ x0, x0 ∈ d := List.exists_mem_of_length_pos (by omega)
    haveI : Inhabited (Fin n) := ⟨x0⟩
    obtain ⟨gB, gl, _, _, _, _, _, _, hAb, hAl, _⟩ := h.at_ hl (Nat.le_refl _) (Below.refl _ _) (i := x0.val) (by have := x0.isLt; omega)
    subst hAb hAl
    obtain ⟨g, capg, hv, hbg, hlt⟩ := ho.form (by rw [lks_len]; exact h0)
    have hA : Ao = some ⟨g, 0, none⟩ := by injection hv
    subst hA
    have n1 : B1 ≠ g := fun e => hg1 (congrArg some e.symm)
    have n2 : B2 ≠ g := fun e => hg2 (congrArg some e.symm)
    have n3 : B3 ≠ g := fun e => hg3 (congrArg some e.symm)
    have hcmp := cmp_lays (n := n) (g := g) h hl hn hb hb1 hb2 hb3 n1 n2 n3 (by omega) h1 h2 h3 d.toArray.size
    have hH : Holds (encF n) w g 0 d.toArray := by
      intro j hj
      have hj' : j < d.length := by simpa using hj
      refine ⟨?_, by rw [Nat.zero_add]; exact ho.frozenAt j⟩
      rw [Nat.zero_add, ho.cellAt j (by rw [lks_len]; omega), getElem!_pos d.toArray j hj]
      have : (fltB bl n)[j]? = some (d[j]).val := by rw [← hd']; simp [hj']
      simp [ints, lks, encF, this]
    have hsw := cfF_swo (bl := bl) hP
    have hpt := cfF_part (bl := bl) hP
    have eg : ∀ args w, (callFunc 95 args).run Try.prog w = .ok (.enter 95 args) w := enters_of Try.func95 (by kernel_rfl) rfl
    have hc := Any.slices_SortFunc_total lays94 (encF n) (fun _ => rfl) (fun x y : Fin n => cfB bl lk x.val y.val) hsw 95 #[.pointer (some ⟨B1, 0, none⟩), .pointer (some ⟨B2, 0, none⟩), .pointer (some ⟨B3, 0, none⟩)] g 0 c d.toArray w eg hcmp hH hlt (by have := fltB_len bl n; simp; omega) hpt
    have hsz : d.toArray.size = (fltB bl n).length := by simpa using hdl
    rw [hsz] at hc
    refine Calls.mono hc ?_
    rintro e w' ⟨rfl, m, os, rfl⟩
    have hso := sort_ordS (bl := bl) hP d hd'
    have hlen : ((d.toArray.toList.mergeSort fun x y => !(ltOf fun x y : Fin n => cfB bl lk x.val y.val) y x).toArray).size = (lks (fltB bl n)).length := by
      rw [List.size_toArray, List.length_mergeSort, lks_len, ← hsz]
      simp
    have hw := sortWorld_own (m := m) ho _ hlen os
    have e1 : (lks ((d.toArray.toList.mergeSort fun x y => !(ltOf fun x y : Fin n => cfB bl lk x.val y.val) y x).toArray.toList.map Fin.val)) = lks (ordS bl lk n) := by
      rw [← hso]
    rw [e1] at hw
    exact ⟨rfl, hw.1, hw.2⟩
end Go.Proofs.Ytjifpjfinffamaa
