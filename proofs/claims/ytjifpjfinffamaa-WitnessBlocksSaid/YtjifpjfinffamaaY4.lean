/- Walk: witness.inner: an event within a block. -/
import Derived.Test.YtjifpjfinffamaaY1
import Derived.BigRegion
import Derived.Handy
import Derived.Deep.RegionLaw
namespace Go.Proofs.Ytjifpjfinffamaa
open Go.RowKit

/-- a block behind an event within it -/
def stB (b : Bl) (e : Ev) : Bl :=
  if e.kind = 4 then { b with num := e.word / 2 } else if e.kind = 5 then { b with wr := true } else if e.kind = 2 then (if e.own = true then b else { b with rd := b.rd ++ [(e.addr, e.word)] })
  else if e.kind = 3 then { b with wt := b.wt ++ [(e.addr, e.word)] } else b
/-- nothing but the blocks' own memory has changed -/
def Fr (w w' : World) (g n : Nat) (hd : Nat → Value) : Prop := ∀ k, k < w.heap.size → k ≠ g → (∀ i, i < 2 * n → (hd i).ownBlock ≠ some k) → w'.heap[k]? = w.heap[k]?
def InEnds (base g n c : Nat) (L : List Bl) (hd : Nat → Value) (j : Nat) (e : Ev) (w : World) : Prop :=
  Calls Try.prog 91 #[.pointer (some ⟨g, j * 9, none⟩), evV e] w fun e' w' => e' = .returned (.tuple #[]) ∧ Below base w w' ∧ Fr w w' g n hd ∧ ∃ hd', HB w' base (some ⟨g, 0, none⟩) n c (L.set j (stB (blAt L j) e)) hd'
theorem Fr.refl (w : World) (g n : Nat) (hd : Nat → Value) : Fr w w g n hd := fun _ _ _ _ => rfl
theorem blAt_set {L : List Bl} {j : Nat} (hj : j < L.length) (b : Bl) (i : Nat) : blAt (L.set j b) i = if i = j then b else blAt L i := by
  unfold blAt
  by_cases e : i = j
  · subst e
    simp [List.getD, hj]
  · rw [if_neg e]
    simp only [List.getD]
    rw [List.getElem?_set_ne (fun e' => e e'.symm)]
theorem set_blAt {L : List Bl} {j : Nat} (hj : j < L.length) : L.set j (blAt L j) = L := by
  apply List.ext_getElem?
  intro i
  by_cases e : i = j
  · subst e
    simp [blAt, List.getD, hj]
  · rw [List.getElem?_set_ne (fun e' => e e'.symm)]

section
variable {base g n c : Nat} {L : List Bl} {hd : Nat → Value} {j : Nat} {w : World}
theorem in_none (e : Ev) (hI : HB w base (some ⟨g, 0, none⟩) n c L hd) (hj : j < n) (hbase : base ≤ w.heap.size) (h4 : e.kind ≠ 4) (h5 : e.kind ≠ 5) (h2 : ¬ (e.kind = 2 ∧ e.own = false)) (h3 : e.kind ≠ 3) : InEnds base g n c L hd j e w := by
  unfold InEnds
  have hset : L.set j (stB (blAt L j) e) = L := by
    unfold stB
    rw [if_neg h4, if_neg h5, if_neg h3]
    by_cases q : e.kind = 2
    · have : e.own = true := by
        cases ho : e.own with
        | true => rfl
        | false => exact absurd ⟨q, ho⟩ h2
      rw [if_pos q, if_pos this]
      exact set_blAt (by rw [hI.len]; exact hj)
    · rw [if_neg q]
      exact set_blAt (by rw [hI.len]; exact hj)
  rw [hset]
  have HI := Lib.hid hI
  clear hset hI
  obtain ⟨th, k, a, x, o, er⟩ := e
  simp only at h4 h5 h2 h3
  have k4 : (k == 4) = false := by simpa using h4
  have k5 : (k == 5) = false := by simpa using h5
  have k3 : (k == 3) = false := by simpa using h3
  have hor : (k == 2) = false ∨ k = 2 ∧ o = true := by
    by_cases q : k = 2
    · cases o with
      | true => exact .inr ⟨q, rfl⟩
      | false => exact absurd ⟨q, rfl⟩ h2
    · exact .inl (by simpa using q)
  clear h4 h5 h2 h3
  rcases hor with k2 | ⟨rfl, rfl⟩
  all_goals
    go_enter Try.func91, Try.ntmps91
    go_wp2
    go_end0
    refine ⟨rfl, ?_, ?_, hd, ?_⟩
    · go_grown
    · exact fun k hk _ _ => Below.heap_alloc w _ k hk
    · exact HI.out.below (Nat.le_refl _) (by go_grown)

theorem in_moved (e : Ev) (he : e.Wd) (hI : HB w base (some ⟨g, 0, none⟩) n c L hd) (hj : j < n) (hbase : base ≤ w.heap.size) (h4 : e.kind = 4) : InEnds base g n c L hd j e w := by
  unfold InEnds
  have hset : stB (blAt L j) e = { blAt L j with num := e.word / 2 } := by unfold stB; simp [h4]
  rw [hset]
  clear hset
  obtain ⟨th, k, a, x, o, er⟩ := e
  simp only at h4
  subst h4
  have hx := he.2
  simp only at hx
  have hdiv : x.tdiv 2 = x / 2 := Int.tdiv_eq_ediv_of_nonneg hx.1
  have hw : IntKind.u64.wrap (x / 2) = x / 2 := by
    simp only [IntKind.wrap, IntKind.signed, IntKind.bits]
    simp
    omega
  have hg := hI.row.lt g rfl
  obtain ⟨g', hA, _, hc, _, _⟩ := hI.reads.at_ (Below.refl _ _) hj
  injection hA with hA
  injection hA with hA
  subst hA
  have hc4 := hc.c4
  have hfr := hI.frozen (j * 9 + 4)
  have hg2 : g < w.heap.size := hg.2
  have hst : HB (w.setCell ⟨g, j * 9 + 4, none⟩ (.int .u64 (x / 2))) base (some ⟨g, 0, none⟩) n c (L.set j { blAt L j with num := x / 2 }) hd := by
    refine hI.set j 4 _ _ hj (by decide) ?_ rfl rfl
    intro i hi
    have : i = 0 ∨ i = 1 ∨ i = 2 ∨ i = 3 ∨ i = 4 ∨ i = 5 ∨ i = 6 ∨ i = 7 ∨ i = 8 := by omega
    rcases this with rfl | rfl | rfl | rfl | rfl | rfl | rfl | rfl | rfl <;> simp [bcell]
  have HST := Lib.hid hst
  have hfx : (w.alloc (.cells #[.int .i64 th, .int .i64 4, .int .u64 a, .int .u64 x, .bool o, .int .i64 er] 97)).frozen? ⟨g, j * 9 + 4, none⟩ = false := frozen_alloc _ hg2 hfr
  generalize { blAt L j with num := x / 2 } = bb at *
  generalize blAt L j = b at *
  clear hst hI hc
  go_enter Try.func91, Try.ntmps91
  go_wp2
  go_end0
  refine ⟨rfl, ?_, ?_, hd, ?_⟩
  · have hbg := hg.1
    go_grown
  · intro k hk h1 _
    exact (Below.heap_alloc _ _ k (by simpa using hk)).trans (Below.heap_setCell _ ⟨g, j * 9 + 4, none⟩ _ k h1)
  · exact HST.out.below (Nat.le_refl _) (by go_grown)

theorem in_locked (e : Ev) (he : e.Wd) (hI : HB w base (some ⟨g, 0, none⟩) n c L hd) (hj : j < n) (hbase : base ≤ w.heap.size) (h4 : e.kind = 5) : InEnds base g n c L hd j e w := by
  unfold InEnds
  have hset : stB (blAt L j) e = { blAt L j with wr := true } := by unfold stB; simp [h4]
  rw [hset]
  clear hset
  obtain ⟨th, k, a, x, o, er⟩ := e
  simp only at h4
  subst h4
  have hx := he.2
  simp only at hx
  have hg := hI.row.lt g rfl
  obtain ⟨g', hA, _, hc, _, _⟩ := hI.reads.at_ (Below.refl _ _) hj
  injection hA with hA
  injection hA with hA
  subst hA
  have hc4 := hc.c5
  have hfr := hI.frozen (j * 9 + 5)
  have hg2 : g < w.heap.size := hg.2
  have hst : HB (w.setCell ⟨g, j * 9 + 5, none⟩ (.bool true)) base (some ⟨g, 0, none⟩) n c (L.set j { blAt L j with wr := true }) hd := by
    refine hI.set j 5 _ _ hj (by decide) ?_ rfl rfl
    intro i hi
    have : i = 0 ∨ i = 1 ∨ i = 2 ∨ i = 3 ∨ i = 4 ∨ i = 5 ∨ i = 6 ∨ i = 7 ∨ i = 8 := by omega
    rcases this with rfl | rfl | rfl | rfl | rfl | rfl | rfl | rfl | rfl <;> simp [bcell]
  have HST := Lib.hid hst
  have hfx : (w.alloc (.cells #[.int .i64 th, .int .i64 5, .int .u64 a, .int .u64 x, .bool o, .int .i64 er] 97)).frozen? ⟨g, j * 9 + 5, none⟩ = false := frozen_alloc _ hg2 hfr
  generalize { blAt L j with wr := true } = bb at *
  generalize blAt L j = b at *
  clear hst hI hc
  go_enter Try.func91, Try.ntmps91
  go_wp2
  go_end0
  refine ⟨rfl, ?_, ?_, hd, ?_⟩
  · have hbg := hg.1
    go_grown
  · intro k hk h1 _
    exact (Below.heap_alloc _ _ k (by simpa using hk)).trans (Below.heap_setCell _ ⟨g, j * 9 + 5, none⟩ _ k h1)
  · exact HST.out.below (Nat.le_refl _) (by go_grown)

set_option maxRecDepth 100000 in
set_option maxHeartbeats 6400000 in
theorem in_read (e : Ev) (_he : e.Wd) (hI : HB w base (some ⟨g, 0, none⟩) n c L hd) (hj : j < n) (hbase : base ≤ w.heap.size) (h4 : e.kind = 2) (ho : e.own = false) (hlen : (blAt L j).rd.length ≤ 1099511627776) : InEnds base g n c L hd j e w := by
  unfold InEnds
  have hset : stB (blAt L j) e = { blAt L j with rd := (blAt L j).rd ++ [(e.addr, e.word)] } := by unfold stB; simp [h4, ho]
  rw [hset]
  clear hset
  obtain ⟨th, k, a, x, o, er⟩ := e
  simp only at h4
  subst h4
  simp only at ho
  subst ho
  have hg := hI.row.lt g rfl
  obtain ⟨g', hA, _, hc, _, _⟩ := hI.reads.at_ (Below.refl _ _) hj
  injection hA with hA
  injection hA with hA
  subst hA
  have hcell := hc.c7
  have hfr := hI.frozen (j * 9 + 7)
  have hg2 : g < w.heap.size := hg.2
  have hrow := hI.own (2 * j + 0) (by omega)
  have hent : ent L (2 * j + 0) = (blAt L j).rd := ent_rd L j
  rw [hent] at hrow
  have hne := hI.ne (i := 2 * j + 0) (by omega)
  have HI := Lib.hid hI
  obtain ⟨Aa, ca, hha⟩ := own_shape hrow
  have HA := Lib.hid hha
  rw [show hd (2 * j) = .slice Aa (blAt L j).rd.length ca from hha] at hcell
  rw [hha] at hrow hne
  have hne0 : some g ≠ (Value.slice Aa (blAt L j).rd.length ca).ownBlock := fun e => hne g e.symm rfl
  have hnb : ∀ g', (Value.slice Aa (blAt L j).rd.length ca).ownBlock = some g' → g' < w.heap.size := fun g' hg' => (OwnN.lt hrow g' hg').2
  obtain ⟨l0, hl0⟩ : ∃ l0, l0 = (blAt L j).rd := ⟨_, rfl⟩
  have HL0 := Lib.hid hl0
  rw [← hl0] at hcell hrow hne0 hnb hlen
  rw [← hl0] at HA
  have hrow' : w.ownsRow base 47 3 (.slice Aa l0.length ca) l0.length (l0.flatMap ncell) := hrow
  rw [← hl0]
  clear hl0 hent hI hha hc hrow hne
  go_enter Try.func91, Try.ntmps91
  go_wp2
  go_region_law
    ((refine step_append_two _ (by rfl) (.tmp 28) (.tmp 34) 41 (by rfl) base 47 _ 3 24 info47 Try.underlying41 rfl (by decide) (.slice Aa l0.length ca) l0.length (l0.flatMap ncell) (by rfl) ((((hrow'.alloc _).drew).alloc _)) (w.heap.size + 1) 1 [.int .u64 a, .int .u64 x, .bool false] (by rfl) (heap_at _ _ _ (by simp)) rfl (by simp [Value.oneCell']) (by omega) (by omega) (by simp; omega) ?_; intro g2 cap2 w2 hown2 hlt2 htwo; have hq2 : w2.cell? ⟨g, j * 9 + 7, none⟩ = some (.slice Aa l0.length ca) := (two_grown htwo).cell (by simp [World.cell?_alloc_some, hcell]) hne0; have hq3 : w2.frozen? ⟨g, j * 9 + 7, none⟩ = false := grown_frozen (two_grown htwo) (by simp; omega) hne0 (by simp [frozen?_alloc_cells, hfr])))
  all_goals
    have hgr := grown_trans (grown_trans (grown_trans (World.grownBy_alloc w _ _) (grown_drew _ _)) (World.grownBy_alloc _ _ _)) (two_grown htwo)
    have hat : (Value.slice (some ⟨g2, 0, none⟩) (l0.length + 1) cap2).ownBlock = (Value.slice Aa l0.length ca).ownBlock ∨ ∃ g', (Value.slice (some ⟨g2, 0, none⟩) (l0.length + 1) cap2).ownBlock = some g' ∧ w.heap.size ≤ g' := by
      rcases htwo with ⟨h1, _⟩ | ⟨h1, _⟩
      · exact .inl h1.symm
      · right
        refine ⟨g2, rfl, ?_⟩
        simp at h1
        omega
    rw [← HA.out] at hgr hat
    have hl2 : ((l0 ++ [(a, x)]).flatMap ncell) = l0.flatMap ncell ++ [.int .u64 a, .int .u64 x, .bool false] := by simp [List.flatMap_append, ncell]
    have hI2 : HB (w2.setCell ⟨g, j * 9 + 7 + 0, none⟩ (.slice (some ⟨g2, 0, none⟩) (l0.length + 1) cap2)) base (some ⟨g, 0, none⟩) n c (L.set j { blAt L j with rd := l0 ++ [(a, x)] }) (fun i => if i = 2 * j + 0 then .slice (some ⟨g2, 0, none⟩) (l0.length + 1) cap2 else hd i) := by
      refine HI.out.list j 0 (by decide) (.slice (some ⟨g2, 0, none⟩) (l0.length + 1) cap2) { blAt L j with rd := l0 ++ [(a, x)] } hj ?_ ?_ hat (fun i r t hi => ?_) rfl
      · show w2.ownsRow base 47 3 _ (l0 ++ [(a, x)]).length ((l0 ++ [(a, x)]).flatMap ncell)
        rw [hl2, List.length_append]
        exact hown2
      · exact fun g' h1 h2 => hgr.block g' h1 (Ne.symm h2)
      · have : i = 0 ∨ i = 1 ∨ i = 2 ∨ i = 3 ∨ i = 4 ∨ i = 5 ∨ i = 6 := by omega
        rcases this with rfl | rfl | rfl | rfl | rfl | rfl | rfl <;> rfl
    have HI2 := Lib.hid hI2
    have hsz2 := hgr.size
    have hbl : Below base w w2 := (Below.refl _ _).grown hgr hbase (fun g' hg' => (OwnN.lt (HI.out.own (2 * j + 0) (by omega)) g' hg').1)
    clear hI2 hat hown2 hlt2 htwo hq2 hq3 hl2
    go_wp2
    go_end0
    refine ⟨rfl, ?_, ?_, _, HI2.out⟩
    · exact hbl.setCell hg.1 _
    · intro k hk h1 h2
      exact (Below.heap_setCell w2 ⟨g, _, none⟩ _ k h1).trans (hgr.block k hk (Ne.symm (h2 (2 * j + 0) (by omega))))

set_option maxRecDepth 100000 in
set_option maxHeartbeats 6400000 in
theorem in_write (e : Ev) (_he : e.Wd) (hI : HB w base (some ⟨g, 0, none⟩) n c L hd) (hj : j < n) (hbase : base ≤ w.heap.size) (h4 : e.kind = 3) (hlen : (blAt L j).wt.length ≤ 1099511627776) : InEnds base g n c L hd j e w := by
  unfold InEnds
  have hset : stB (blAt L j) e = { blAt L j with wt := (blAt L j).wt ++ [(e.addr, e.word)] } := by unfold stB; simp [h4]
  rw [hset]
  clear hset
  obtain ⟨th, k, a, x, o, er⟩ := e
  simp only at h4
  subst h4
  have hg := hI.row.lt g rfl
  obtain ⟨g', hA, _, hc, _, _⟩ := hI.reads.at_ (Below.refl _ _) hj
  injection hA with hA
  injection hA with hA
  subst hA
  have hcell := hc.c8
  have hfr := hI.frozen (j * 9 + 8)
  have hg2 : g < w.heap.size := hg.2
  have hrow := hI.own (2 * j + 1) (by omega)
  have hent : ent L (2 * j + 1) = (blAt L j).wt := ent_wt L j
  rw [hent] at hrow
  have hne := hI.ne (i := 2 * j + 1) (by omega)
  have HI := Lib.hid hI
  obtain ⟨Aa, ca, hha⟩ := own_shape hrow
  have HA := Lib.hid hha
  rw [show hd (2 * j + 1) = .slice Aa (blAt L j).wt.length ca from hha] at hcell
  rw [hha] at hrow hne
  have hne0 : some g ≠ (Value.slice Aa (blAt L j).wt.length ca).ownBlock := fun e => hne g e.symm rfl
  have hnb : ∀ g', (Value.slice Aa (blAt L j).wt.length ca).ownBlock = some g' → g' < w.heap.size := fun g' hg' => (OwnN.lt hrow g' hg').2
  obtain ⟨l0, hl0⟩ : ∃ l0, l0 = (blAt L j).wt := ⟨_, rfl⟩
  have HL0 := Lib.hid hl0
  rw [← hl0] at hcell hrow hne0 hnb hlen
  rw [← hl0] at HA
  have hrow' : w.ownsRow base 47 3 (.slice Aa l0.length ca) l0.length (l0.flatMap ncell) := hrow
  rw [← hl0]
  clear hl0 hent hI hha hc hrow hne
  go_enter Try.func91, Try.ntmps91
  go_wp2
  go_region_law
    ((refine step_append_two _ (by rfl) (.tmp 44) (.tmp 50) 41 (by rfl) base 47 _ 3 24 info47 Try.underlying41 rfl (by decide) (.slice Aa l0.length ca) l0.length (l0.flatMap ncell) (by rfl) ((((hrow'.alloc _).drew).alloc _)) (w.heap.size + 1) 1 [.int .u64 a, .int .u64 x, .bool false] (by rfl) (heap_at _ _ _ (by simp)) rfl (by simp [Value.oneCell']) (by omega) (by omega) (by simp; omega) ?_; intro g2 cap2 w2 hown2 hlt2 htwo; have hq2 : w2.cell? ⟨g, j * 9 + 8, none⟩ = some (.slice Aa l0.length ca) := (two_grown htwo).cell (by simp [World.cell?_alloc_some, hcell]) hne0; have hq3 : w2.frozen? ⟨g, j * 9 + 8, none⟩ = false := grown_frozen (two_grown htwo) (by simp; omega) hne0 (by simp [frozen?_alloc_cells, hfr])))
  all_goals
    have hgr := grown_trans (grown_trans (grown_trans (World.grownBy_alloc w _ _) (grown_drew _ _)) (World.grownBy_alloc _ _ _)) (two_grown htwo)
    have hat : (Value.slice (some ⟨g2, 0, none⟩) (l0.length + 1) cap2).ownBlock = (Value.slice Aa l0.length ca).ownBlock ∨ ∃ g', (Value.slice (some ⟨g2, 0, none⟩) (l0.length + 1) cap2).ownBlock = some g' ∧ w.heap.size ≤ g' := by
      rcases htwo with ⟨h1, _⟩ | ⟨h1, _⟩
      · exact .inl h1.symm
      · right
        refine ⟨g2, rfl, ?_⟩
        simp at h1
        omega
    rw [← HA.out] at hgr hat
    have hl2 : ((l0 ++ [(a, x)]).flatMap ncell) = l0.flatMap ncell ++ [.int .u64 a, .int .u64 x, .bool false] := by simp [List.flatMap_append, ncell]
    have hI2 : HB (w2.setCell ⟨g, j * 9 + 7 + 1, none⟩ (.slice (some ⟨g2, 0, none⟩) (l0.length + 1) cap2)) base (some ⟨g, 0, none⟩) n c (L.set j { blAt L j with wt := l0 ++ [(a, x)] }) (fun i => if i = 2 * j + 1 then .slice (some ⟨g2, 0, none⟩) (l0.length + 1) cap2 else hd i) := by
      refine HI.out.list j 1 (by decide) (.slice (some ⟨g2, 0, none⟩) (l0.length + 1) cap2) { blAt L j with wt := l0 ++ [(a, x)] } hj ?_ ?_ hat (fun i r t hi => ?_) rfl
      · show w2.ownsRow base 47 3 _ (l0 ++ [(a, x)]).length ((l0 ++ [(a, x)]).flatMap ncell)
        rw [hl2, List.length_append]
        exact hown2
      · exact fun g' h1 h2 => hgr.block g' h1 (Ne.symm h2)
      · have : i = 0 ∨ i = 1 ∨ i = 2 ∨ i = 3 ∨ i = 4 ∨ i = 5 ∨ i = 6 := by omega
        rcases this with rfl | rfl | rfl | rfl | rfl | rfl | rfl <;> rfl
    have HI2 := Lib.hid hI2
    have hsz2 := hgr.size
    have hbl : Below base w w2 := (Below.refl _ _).grown hgr hbase (fun g' hg' => (OwnN.lt (HI.out.own (2 * j + 1) (by omega)) g' hg').1)
    clear hI2 hat hown2 hlt2 htwo hq2 hq3 hl2
    go_wp2
    go_end0
    refine ⟨rfl, ?_, ?_, _, HI2.out⟩
    · exact hbl.setCell hg.1 _
    · intro k hk h1 h2
      exact (Below.heap_setCell w2 ⟨g, _, none⟩ _ k h1).trans (hgr.block k hk (Ne.symm (h2 (2 * j + 1) (by omega))))

end
end Go.Proofs.Ytjifpjfinffamaa
