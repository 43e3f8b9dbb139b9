/- Memory of witness.cut between its events. -/
import Derived.Test.YtjifpjfinffamaaY9
import Derived.Test.YtjifpjfinffamaaYA
namespace Go.Proofs.Ytjifpjfinffamaa
open Go.RowKit

/-! plain: places and lengths in the pass -/
structure COwn (c : CS) (p : Nat) : Prop where
  len : c.lk.length = c.bl.length
  own : ∀ t k, c.op t = some k → k < c.bl.length
  le : c.bl.length ≤ p
  rd : ∀ k, (blAt c.bl k).rd.length ≤ p
  wt : ∀ k, (blAt c.bl k).wt.length ≤ p
theorem COwn.start : COwn cs0 0 := by
  refine ⟨rfl, ?_, Nat.le_refl _, ?_, ?_⟩
  · intro t k h
    cases h
  · intro k
    simp [cs0, blAt, bl0]
  · intro k
    simp [cs0, blAt, bl0]
theorem blAt_append (L : List Bl) (b : Bl) (k : Nat) : blAt (L ++ [b]) k = if k = L.length then b else blAt L k := by
  unfold blAt
  by_cases h : k < L.length
  · rw [if_neg (by omega)]
    simp [List.getD, List.getElem?_append_left h]
  · by_cases e : k = L.length
    · subst e
      simp [List.getD]
    · rw [if_neg e]
      simp only [List.getD]
      rw [List.getElem?_eq_none (by simp; omega), List.getElem?_eq_none (by omega)]
theorem evB_lens (b : Bl) (i : Nat) (e : Ev) : (evB b i e).rd.length ≤ b.rd.length + 1 ∧ (evB b i e).wt.length ≤ b.wt.length + 1 := by
  unfold evB clB stB
  repeat' split
  all_goals simp
theorem COwn.step {c : CS} {p : Nat} (h : COwn c p) (e : Ev) : COwn (cutS c p e) (p + 1) := by
  obtain ⟨h1, h2, h3, h4, h5⟩ := h
  unfold cutS
  by_cases hk : e.kind = 1
  · rw [if_pos hk]
    refine ⟨by simp [h1], fun t k => ?_, by simp; omega, fun k => ?_, fun k => ?_⟩
    · dsimp only
      split
      · intro q
        injection q with q
        simp
        omega
      · intro q
        have := h2 t k q
        simp
        omega
    · dsimp only
      rw [blAt_append]
      split
      · simp [begB]
      · have := h4 k; omega
    · dsimp only
      rw [blAt_append]
      split
      · simp [begB]
      · have := h5 k; omega
  · rw [if_neg hk]
    cases ho : c.op e.th with
    | none => exact ⟨h1, h2, by dsimp only; omega, fun k => by have := h4 k; dsimp only; omega, fun k => by have := h5 k; dsimp only; omega⟩
    | some k =>
      have hkl := h2 _ _ ho
      refine ⟨?_, fun t k' => ?_, by simp; omega, fun k' => ?_, fun k' => ?_⟩
      · dsimp only
        split <;> simp [h1]
      · dsimp only
        intro q
        have q2 : c.op t = some k' := by
          split at q
          · dsimp only at q
            split at q
            · cases q
            · exact q
          · exact q
        have := h2 t k' q2
        simpa using this
      · dsimp only
        rw [blAt_set hkl]
        split
        · have := (evB_lens (blAt c.bl k) p e).1
          have := h4 k
          omega
        · have := h4 k'; omega
      · dsimp only
        rw [blAt_set hkl]
        split
        · have := (evB_lens (blAt c.bl k) p e).2
          have := h5 k
          omega
        · have := h5 k'; omega
theorem cutF_own : ∀ (r : List Ev) (p : Nat) (c : CS), COwn c p → COwn (cutF c r p) (p + r.length)
  | [], p, c, h => h
  | e :: r, p, c, h => by
    have := cutF_own r (p + 1) (cutS c p e) (h.step e)
    rw [List.length_cons, show p + (r.length + 1) = p + 1 + r.length by omega]
    exact this

/-! memory -/
theorem OwnI.setAt {w : World} {base g c : Nat} {xs : List Int} (h : OwnI w base (some ⟨g, 0, none⟩) c xs) (j : Nat) (v : Int) : OwnI (w.setCell ⟨g, j, none⟩ (.int .i64 v)) base (some ⟨g, 0, none⟩) c (xs.set j v) := by
  have := (World.ownsRow.stored h j (.int .i64 v)).1
  unfold OwnI
  rw [List.length_set, show ints (xs.set j v) = (ints xs).set j (.int .i64 v) from by simp [ints, List.map_set]]
  exact this
theorem lks_set (lk : List Nat) (j x : Nat) : lks (lk.set j x) = (lks lk).set j (x : Int) := by simp [lks, List.map_set]
structure CutI (w0 wr : World) (m : Nat) (c : CS) (A : Option Addr) (cb : Nat) (hd : Nat → Value) (Al : Option Addr) (cl : Nat) : Prop where
  blk : BLk wr (w0.heap.size + 1) A cb c.bl hd Al cl c.lk
  op : OpM wr w0.heap.size m c.op
  bel : Below w0.heap.size w0 wr
section
variable {w0 wr w2 : World} {m : Nat} {c : CS} {A : Option Addr} {cb : Nat} {hd : Nat → Value} {Al : Option Addr} {cl : Nat}
theorem CutI.lt (h : CutI w0 wr m c A cb hd Al cl) : w0.heap.size < wr.heap.size := h.op.lt
theorem CutI.keep (h : CutI w0 wr m c A cb hd Al cl) (hb : Below wr.heap.size wr w2) : CutI w0 w2 m c A cb hd Al cl :=
  ⟨h.blk.below (Nat.le_refl _) hb, h.op.kept (hb.block _ h.lt), h.bel.trans (hb.mono (Nat.le_of_lt h.lt))⟩
theorem CutI.mapped (h : CutI w0 wr m c A cb hd Al cl) {m' : Nat} {op' : Int → Option Nat} (ho : OpM w2 w0.heap.size m' op') (hg : wr.grownBy w2 (some w0.heap.size)) : CutI w0 w2 m' ⟨c.bl, c.lk, op'⟩ A cb hd Al cl := by
  refine ⟨⟨h.blk.hb.keep (fun k hk => ?_) (fun i hi k hk => ?_), h.blk.lk.keep' fun k hk => ?_⟩, ho, h.bel.grown hg (Nat.le_of_lt h.lt) (fun k hk => by injection hk with hk; omega)⟩
  · have := h.blk.hb.row.lt k hk
    exact hg.block k this.2 (fun e => by injection e with e; omega)
  · have := (h.blk.hb.own i hi).lt k hk
    exact hg.block k this.2 (fun e => by injection e with e; omega)
  · have := h.blk.lk.lt k hk
    exact hg.block k this.2 (fun e => by injection e with e; omega)
theorem CutI.pushed (h : CutI w0 wr m c A cb hd Al cl) (b : Bl) (hr : b.rd = []) (ht : b.wt = []) {g cap : Nat} (hg : wr.grownBy w2 (Value.slice A c.bl.length cb).ownBlock)
    (ho : w2.ownsRow (w0.heap.size + 1) 43 9 (.slice (some ⟨g, 0, none⟩) (c.bl.length + 1) cap) (c.bl.length + 1) ((List.range (c.bl.length * 9)).map (bF c.bl hd) ++ (List.range 9).map (bcell b (.slice none 0 0) (.slice none 0 0)))) :
    ∃ hd', CutI w0 w2 m ⟨c.bl ++ [b], c.lk, c.op⟩ (some ⟨g, 0, none⟩) cap hd' Al cl := by
  have hge : ∀ k, (Value.slice A c.bl.length cb).ownBlock = some k → w0.heap.size + 1 ≤ k := fun k hk => (h.blk.hb.row.lt k hk).1
  obtain ⟨hd', h1⟩ := h.blk.push b (.slice none 0 0) (.slice none 0 0) (B0 := wr.heap.size) (by rw [hr]; exact OwnN.nil _ _) (by rw [ht]; exact OwnN.nil _ _) (fun k hk => by cases hk) h.blk.hd_lt (fun k hk => by cases hk) (fun k hk => by cases hk) hg ho
  refine ⟨hd', h1, h.op.kept (hg.block _ h.lt fun e => ?_), h.bel.grown hg (Nat.le_of_lt h.lt) (fun k hk => by have := hge k hk; omega)⟩
  have := hge _ e.symm
  omega
theorem CutI.looked (h : CutI w0 wr m c A cb hd Al cl) (x : Nat) {Al' : Option Addr} {cl' : Nat} (hg : wr.grownBy w2 (Value.slice Al (lks c.lk).length cl).ownBlock) (ho : OwnI w2 (w0.heap.size + 1) Al' cl' (lks (c.lk ++ [x]))) :
    CutI w0 w2 m ⟨c.bl, c.lk ++ [x], c.op⟩ A cb hd Al' cl' := by
  have hge : ∀ k, (Value.slice Al (lks c.lk).length cl).ownBlock = some k → w0.heap.size + 1 ≤ k := fun k hk => (h.blk.lk.lt k hk).1
  refine ⟨h.blk.look x hg ho, h.op.kept (hg.block _ h.lt fun e => ?_), h.bel.grown hg (Nat.le_of_lt h.lt) (fun k hk => by have := hge k hk; omega)⟩
  have := hge _ e.symm
  omega
theorem CutI.set {g : Nat} (h : CutI w0 wr m c (some ⟨g, 0, none⟩) cb hd Al cl) (j t : Nat) (v : Value) (b' : Bl) (hj : j < c.bl.length) (ht : t < 7) (hb : ∀ i r s, i < 9 → (if i = t then v else bcell (blAt c.bl j) r s i) = bcell b' r s i) (h1 : b'.rd = (blAt c.bl j).rd) (h2 : b'.wt = (blAt c.bl j).wt) :
    CutI w0 (wr.setCell ⟨g, j * 9 + t, none⟩ v) m ⟨c.bl.set j b', c.lk, c.op⟩ (some ⟨g, 0, none⟩) cb hd Al cl := by
  have hgw := h.blk.hb.row.lt g rfl
  have hs := h.blk.hb.set j t v b' hj ht (fun i hi => hb i _ _ hi) h1 h2
  refine ⟨⟨?_, h.blk.lk.keep' fun k hk => ?_⟩, h.op.kept ?_, h.bel.setCell (p := ⟨g, j * 9 + t, none⟩) (by have := hgw.1; show w0.heap.size ≤ g; omega) v⟩
  · dsimp only
    rw [List.length_set]
    exact hs
  · exact Below.heap_setCell wr ⟨g, j * 9 + t, none⟩ v k fun e => own_far h.blk.lk h.blk.hb.row (by decide) k hk (congrArg some e.symm)
  · exact Below.heap_setCell wr ⟨g, j * 9 + t, none⟩ v _ fun e => by
      have : w0.heap.size = g := e
      omega
theorem CutI.inner {g : Nat} (h : CutI w0 wr m c (some ⟨g, 0, none⟩) cb hd Al cl) (j : Nat) (b' : Bl) (hb : Below (w0.heap.size + 1) wr w2) (hf : Fr wr w2 g c.bl.length hd) (hn : ∃ hd', HB w2 (w0.heap.size + 1) (some ⟨g, 0, none⟩) c.bl.length cb (c.bl.set j b') hd') :
    ∃ hd', CutI w0 w2 m ⟨c.bl.set j b', c.lk, c.op⟩ (some ⟨g, 0, none⟩) cb hd' Al cl := by
  obtain ⟨hd', hn⟩ := hn
  refine ⟨hd', ⟨?_, h.blk.lk.keep' fun k hk => ?_⟩, h.op.kept (hb.block _ (Nat.lt_succ_self _)), h.bel.trans (hb.mono (Nat.le_succ _))⟩
  · dsimp only
    rw [List.length_set]
    exact hn
  · exact hf k (h.blk.lk.lt k hk).2 (fun e => own_far h.blk.lk h.blk.hb.row (by decide) k hk (congrArg some e.symm)) fun i hi e => own_far h.blk.lk (h.blk.hb.own i hi) (by decide) k hk e
theorem CutI.lookset {gl : Nat} (h : CutI w0 wr m c A cb hd (some ⟨gl, 0, none⟩) cl) (j x : Nat) : CutI w0 (wr.setCell ⟨gl, j, none⟩ (.int .i64 (x : Int))) m ⟨c.bl, c.lk.set j x, c.op⟩ A cb hd (some ⟨gl, 0, none⟩) cl := by
  have hgw := h.blk.lk.lt gl rfl
  refine ⟨⟨h.blk.hb.keep (fun k hk => ?_) (fun i hi k hk => ?_), ?_⟩, h.op.kept ?_, h.bel.setCell (p := ⟨gl, j, none⟩) (by have := hgw.1; show w0.heap.size ≤ gl; omega) _⟩
  · exact Below.heap_setCell wr ⟨gl, j, none⟩ _ k fun e => own_far h.blk.hb.row h.blk.lk (by decide) k hk (congrArg some e.symm)
  · exact Below.heap_setCell wr ⟨gl, j, none⟩ _ k fun e => own_far (h.blk.hb.own i hi) h.blk.lk (by decide) k hk (congrArg some e.symm)
  · dsimp only
    rw [lks_set]
    exact h.blk.lk.setAt j _
  · exact Below.heap_setCell wr ⟨gl, j, none⟩ _ _ fun e => by
      have : w0.heap.size = gl := e
      omega
end
section
variable {w0 wr : World} {m : Nat} {bl : List Bl} {lk : List Nat} {op : Int → Option Nat} {cb : Nat} {hd : Nat → Value} {Al : Option Addr} {cl g j : Nat} {b1 : Bl}
theorem CutI.set2 (h : CutI w0 wr m ⟨bl.set j b1, lk, op⟩ (some ⟨g, 0, none⟩) cb hd Al cl) (hj : j < bl.length) (t : Nat) (v : Value) (b2 : Bl) (ht : t < 7) (hb : ∀ i r s, i < 9 → (if i = t then v else bcell b1 r s i) = bcell b2 r s i) (h1 : b2.rd = b1.rd) (h2 : b2.wt = b1.wt) :
    CutI w0 (wr.setCell ⟨g, j * 9 + t, none⟩ v) m ⟨bl.set j b2, lk, op⟩ (some ⟨g, 0, none⟩) cb hd Al cl := by
  have e : blAt (bl.set j b1) j = b1 := by rw [blAt_set hj, if_pos rfl]
  have := h.set j t v b2 (by simpa using hj) ht (fun i r s hi => by dsimp only; rw [e]; exact hb i r s hi) (by dsimp only; rw [e]; exact h1) (by dsimp only; rw [e]; exact h2)
  dsimp only at this
  rwa [List.set_set] at this
end
theorem CutI.drew {w0 wr : World} {m : Nat} {c : CS} {A : Option Addr} {cb : Nat} {hd : Nat → Value} {Al : Option Addr} {cl : Nat} (h : CutI w0 wr m c A cb hd Al cl) : CutI w0 wr.drew m c A cb hd Al cl :=
  h.keep ⟨rfl, rfl, rfl, Nat.le_refl _, fun _ _ => rfl⟩
/-- an event within a block, whatever it is -/
theorem inner_any {base g n c : Nat} {L : List Bl} {hd : Nat → Value} {j : Nat} {w : World} (e : Ev) (he : e.Wd) (hI : HB w base (some ⟨g, 0, none⟩) n c L hd) (hj : j < n) (hbase : base ≤ w.heap.size) (h1 : (blAt L j).rd.length ≤ 1099511627776) (h2 : (blAt L j).wt.length ≤ 1099511627776) : InEnds base g n c L hd j e w := by
  by_cases k4 : e.kind = 4
  · exact in_moved e he hI hj hbase k4
  · by_cases k5 : e.kind = 5
    · exact in_locked e he hI hj hbase k5
    · by_cases k3 : e.kind = 3
      · exact in_write e he hI hj hbase k3 h2
      · by_cases k2 : e.kind = 2 ∧ e.own = false
        · exact in_read e he hI hj hbase k2.1 k2.2 h1
        · exact in_none e hI hj hbase k4 k5 k2 k3
/-- an event within the cut's block -/
theorem inner_cut {w0 W : World} {m : Nat} {bl : List Bl} {lk : List Nat} {op : Int → Option Nat} {cb : Nat} {hd : Nat → Value} {Al : Option Addr} {cl g j : Nat} {b1 : Bl} (h : CutI w0 W m ⟨bl.set j b1, lk, op⟩ (some ⟨g, 0, none⟩) cb hd Al cl) (hj : j < bl.length) (e : Ev) (he : e.Wd) (h1 : b1.rd.length ≤ 1099511627776) (h2 : b1.wt.length ≤ 1099511627776) :
    Calls Try.prog 91 #[.pointer (some ⟨g, j * 9, none⟩), evV e] W fun e' w' => e' = .returned (.tuple #[]) ∧ (∃ hd', CutI w0 w' m ⟨bl.set j (stB b1 e), lk, op⟩ (some ⟨g, 0, none⟩) cb hd' Al cl) ∧ W.heap.size ≤ w'.heap.size ∧ Fr W w' g bl.length hd := by
  have e1 : blAt (bl.set j b1) j = b1 := by rw [blAt_set hj, if_pos rfl]
  have hb := h.blk.hb
  dsimp only at hb
  have hin := inner_any (j := j) e he hb (by simpa using hj) (by have := h.lt; omega) (by rw [e1]; exact h1) (by rw [e1]; exact h2)
  refine Calls.mono hin ?_
  rintro e' w' ⟨rfl, hbl, hf, hn⟩
  rw [e1, List.set_set] at hn
  refine ⟨rfl, ?_, hbl.size, ?_⟩
  · obtain ⟨hd', hc⟩ := h.inner j (stB b1 e) hbl hf (by dsimp only; rw [List.set_set]; exact hn)
    dsimp only at hc
    rw [List.set_set] at hc
    exact ⟨hd', hc⟩
  · rw [List.length_set] at hf
    exact hf
/-! the last pass over the blocks -/
def dlB (bl : List Bl) (q : Nat) : List Bl := (bl.take q).map finW ++ bl.drop q
theorem dlB_zero (bl : List Bl) : dlB bl 0 = bl := rfl
theorem dlB_len (bl : List Bl) (q : Nat) : (dlB bl q).length = bl.length := by simp [dlB]; omega
theorem dlB_end (bl : List Bl) : dlB bl bl.length = bl.map finW := by simp [dlB]
theorem dlB_at {bl : List Bl} {q : Nat} (h : q < bl.length) : blAt (dlB bl q) q = blAt bl q := by
  have h1 : ((bl.take q).map finW).length = q := by simp; omega
  simp only [blAt, List.getD, dlB]
  rw [List.getElem?_append_right (by omega), h1, Nat.sub_self, List.getElem?_drop, Nat.add_zero]
theorem dlB_step {bl : List Bl} {q : Nat} (h : q < bl.length) : (dlB bl q).set q (finW (blAt bl q)) = dlB bl (q + 1) := by
  have h1 : ((bl.take q).map finW).length = q := by simp; omega
  have h2 : blAt bl q = bl[q] := by simp [blAt, List.getD, List.getElem?_eq_getElem h]
  unfold dlB
  rw [h2, List.set_append_right _ _ (by omega), h1, Nat.sub_self, List.drop_eq_getElem_cons h, List.set_cons_zero, List.take_succ_eq_append_getElem h, List.map_append, List.append_assoc]
  rfl
theorem BLk.set {w : World} {base g c : Nat} {bl : List Bl} {hd : Nat → Value} {Al : Option Addr} {cl : Nat} {lk : List Nat} (h : BLk w base (some ⟨g, 0, none⟩) c bl hd Al cl lk) (j t : Nat) (v : Value) (b' : Bl) (hj : j < bl.length) (ht : t < 7) (hb : ∀ i r s, i < 9 → (if i = t then v else bcell (blAt bl j) r s i) = bcell b' r s i) (h1 : b'.rd = (blAt bl j).rd) (h2 : b'.wt = (blAt bl j).wt) :
    BLk (w.setCell ⟨g, j * 9 + t, none⟩ v) base (some ⟨g, 0, none⟩) c (bl.set j b') hd Al cl lk := by
  refine ⟨?_, h.lk.keep' fun k hk => ?_⟩
  · rw [List.length_set]
    exact h.hb.set j t v b' hj ht (fun i hi => hb i _ _ hi) h1 h2
  · exact Below.heap_setCell w ⟨g, j * 9 + t, none⟩ v k fun e => own_far h.lk h.hb.row (by decide) k hk (congrArg some e.symm)
end Go.Proofs.Ytjifpjfinffamaa
