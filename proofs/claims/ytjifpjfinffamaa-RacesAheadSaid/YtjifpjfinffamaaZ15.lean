/- Texts R8c, laid together. -/
import Derived.Test.YtjifpjfinffamaaZ13
section
namespace Go.Proofs.Ytjifpjfinffamaa
open Go.RowKit Go.Maps
structure L5 (wC wr : World) (base B gP gO cp n : Nat) (P : List Pt) (tn : Nat → Nat) (own : Nat → List Nat) (hd : Nat → Value) (xs : List Int) : Prop where
  ex : Ex wC wr (fun j => j = gP ∨ j = gO ∨ j = B)
  pm : PM wr base (some ⟨gP, 0, none⟩) cp P sn0 tn
  ow : OwP wr gO gO wC.heap.size hd own
  of : OwnI wr B (some ⟨B, 0, none⟩) n xs
  ne : (gP ≠ gO ∧ gP ≠ B ∧ gO ≠ B) ∧ gP < wC.heap.size ∧ gO < wC.heap.size ∧ B < wC.heap.size
section
variable {wC wr w2 w3 : World} {base B gP gO cp n : Nat} {P : List Pt} {tn : Nat → Nat} {own : Nat → List Nat} {hd : Nat → Value} {xs : List Int}
theorem L5.kept (h : L5 wC wr base B gP gO cp n P tn own hd xs) {k0 : Nat} (hk : wr.heap.size ≤ k0) (he : Ex wr w2 (fun k => k = k0)) : L5 wC w2 base B gP gO cp n P tn own hd xs := by
  have hs := h.ex.size
  obtain ⟨⟨n1, n2, n3⟩, n4, n5, n6⟩ := h.ne
  refine ⟨h.ex.trans he (fun k h1 h2 => by omega), h.pm.kept fun k hk2 => ?_, h.ow.kept he (by omega) (fun k _ _ => by omega), h.of.ex he (fun k hk2 => ?_), h.ne⟩
  · have e : gP = k := Option.some.inj hk2
    subst e
    exact he.block _ (by omega) (by omega)
  · have := (World.ownsRow.lt h.of k hk2).2
    omega
theorem L5.drewN (h : L5 wC wr base B gP gO cp n P tn own hd xs) (m : Nat) : L5 wC (wr.drewN m) base B gP gO cp n P tn own hd xs := h.kept (Nat.le_refl _) ((Ex.refl wr _).drewN m)
theorem L5.drew (h : L5 wC wr base B gP gO cp n P tn own hd xs) : L5 wC wr.drew base B gP gO cp n P tn own hd xs := h.kept (Nat.le_refl _) (Ex.refl wr _).drew
theorem L5.alloc (h : L5 wC wr base B gP gO cp n P tn own hd xs) (o : Obj) : L5 wC (wr.alloc o) base B gP gO cp n P tn own hd xs := h.kept (Nat.le_refl _) ((Ex.refl wr _).alloc o)
theorem L5.turn (h : L5 wC wr base B gP gO cp n P tn own hd xs) (j v : Nat) : L5 wC (wr.setCell ⟨gP, j * 13 + 12, none⟩ (.int .i64 (v : Int))) base B gP gO cp n P (fun i => if i = j then v else tn i) own hd xs := by
  have hs := h.ex.size
  obtain ⟨⟨n1, n2, n3⟩, n4, n5, n6⟩ := h.ne
  have he : Ex wr (wr.setCell ⟨gP, j * 13 + 12, none⟩ (.int .i64 (v : Int))) (fun k => k = gP) := (Ex.refl wr _).set _ _ fun _ => rfl
  refine ⟨h.ex.set _ _ fun _ => .inl rfl, h.pm.turn j v, h.ow.kept he (by omega) (fun k _ _ => by omega), h.of.ex he (fun k hk => ?_), h.ne⟩
  have e : B = k := Option.some.inj hk
  omega
theorem L5.off (h : L5 wC wr base B gP gO cp n P tn own hd xs) (j : Nat) (v : Int) : L5 wC (wr.setCell ⟨B, j, none⟩ (.int .i64 v)) base B gP gO cp n P tn own hd (xs.set j v) := by
  have hs := h.ex.size
  obtain ⟨⟨n1, n2, n3⟩, n4, n5, n6⟩ := h.ne
  have he : Ex wr (wr.setCell ⟨B, j, none⟩ (.int .i64 v)) (fun k => k = B) := (Ex.refl wr _).set _ _ fun _ => rfl
  refine ⟨h.ex.set _ _ fun _ => .inr (.inr rfl), h.pm.ex he (fun k hk => ?_), h.ow.kept he (by omega) (fun k _ _ => by omega), h.of.setAt j v, h.ne⟩
  have e : gP = k := Option.some.inj hk
  omega
theorem L5.push (h : L5 wC wr base B gP gO cp n P tn own hd xs) {t p : Nat} (ht : t < 8) {v : Value} (hg : wr.grownBy w2 (hd t).ownBlock) (ho : w2.ownsRow wC.heap.size 3 1 v ((own t).length + 1) (ints (lks (own t)) ++ [.int .i64 (p : Int)]))
    (hv : v.ownBlock = (hd t).ownBlock ∨ ∃ g, v.ownBlock = some g ∧ wr.heap.size ≤ g) : L5 wC (w2.setCell ⟨gO, t, none⟩ v) base B gP gO cp n P tn (fun i => if i = t then own t ++ [p] else own i) (fun i => if i = t then v else hd i) xs := by
  have hs := h.ex.size
  obtain ⟨⟨n1, n2, n3⟩, n4, n5, n6⟩ := h.ne
  have hfar : ∀ g, (hd t).ownBlock = some g → wC.heap.size ≤ g ∧ g < wr.heap.size := fun g hg => (h.ow.row t ht).lt g hg
  have hset : ∀ {k : Nat}, k ≠ gO → (w2.setCell ⟨gO, t, none⟩ v).heap[k]? = w2.heap[k]? := fun {k} hk => Below.heap_setCell w2 ⟨gO, t, none⟩ v k hk
  have hold : ∀ k, k < wC.heap.size → k ≠ gO → (w2.setCell ⟨gO, t, none⟩ v).heap[k]? = wr.heap[k]? := fun k hk hne => (hset hne).trans (hg.block k (by omega) (fun e => by have := (hfar k e.symm).1; omega))
  refine ⟨(h.ex.grown hg (fun k h1 h2 => absurd (hfar k h1).1 (by omega))).set _ _ (fun _ => .inr (.inl rfl)), h.pm.kept fun k hk => ?_, h.ow.step ht hg ho hv, ?_, h.ne⟩
  · have e : gP = k := Option.some.inj hk
    subst e
    exact hold _ n4 n1
  · refine ⟨(show _ ∧ _ from h.of).1, ?_⟩
    rcases (show _ ∨ _ from h.of.2) with h2 | ⟨g, cap, cur, hv', hbg, hh, h3⟩
    · exact .inl h2
    · have e : B = g := by
        injection hv' with e1 _ _
        injection e1 with e1
        injection e1
      exact .inr ⟨g, cap, cur, hv', hbg, (hold g (by omega) (by omega)).trans hh, h3⟩
end
structure WC (w0 wc : World) (l : List Ev) (A : Option Addr) (bl : List Bl) (lk : List Nat) (Ab : Option Addr) (cb : Nat) (hd : Nat → Value) (Ao : Option Addr) (co lim m : Nat) (Ap : Option Addr) (cp : Nat) (P : List Pt) : Prop where
  bel : Below w0.heap.size w0 wc
  ev : EvR wc w0.heap.size A l
  of : OwnI wc w0.heap.size (some ⟨w0.heap.size, 0, none⟩) l.length (negs l.length l.length)
  var : wc.cell? ⟨w0.heap.size + 2, 0, none⟩ = some (.pointer (some ⟨w0.heap.size + 1, 0, none⟩))
  web : Blk wc w0.heap.size 134 (w0.heap.size + 1) 3 (webF Ap cp P.length (some ⟨w0.heap.size, 0, none⟩) l.length l.length (.slice Ab bl.length cb))
  blk : RB wc (w0.heap.size + 3) lim Ab bl.length bl hd
  ord : OwnI wc (w0.heap.size + 3) Ao co (lks (ordS bl lk bl.length))
  ordL : ∀ j, (Value.slice Ao (lks (ordS bl lk bl.length)).length co).ownBlock = some j → j < lim
  pl : PlM wc lim m (plO bl bl.length)
  pm : PM wc (lim + 1) Ap cp P sn0 tn0
  sz : w0.heap.size + 3 ≤ lim ∧ lim < wc.heap.size
section
variable {w0 wA wc w2 : World} {l : List Ev} {A : Option Addr} {bl : List Bl} {lk : List Nat} {Ab : Option Addr} {cb : Nat} {hd : Nat → Value} {Ao : Option Addr} {co m : Nat} {Ap : Option Addr} {cp lim k : Nat} {P : List Pt} {op : Int → Option Nat} {S : Nat → Prop}
theorem WC.of_ (h : WA w0 wA l A bl lk Ab cb hd Ao co l.length) (hL : LpP wA wc w0.heap.size l.length (.slice Ab bl.length cb) Ap cp P m op) (hop : op = plO bl bl.length) : WC w0 wc l A bl lk Ab cb hd Ao co wA.heap.size m Ap cp P := by
  have hs := h.sz
  have he := hL.ex
  refine ⟨he.below h.bel (fun k hk => by omega) (by omega), h.evs he, own_keep h.of fun g hg => ?_, h.varC he, hL.web, h.blks he, own_keep h.ord fun g hg => ?_, fun j hj => (World.ownsRow.lt h.ord j hj).2, hop ▸ hL.pl, hL.pm, h.sz, hL.pl.lt⟩
  · have e : w0.heap.size = g := Option.some.inj hg
    subst e
    exact he.block _ (by omega) (by omega)
  · have := World.ownsRow.lt h.ord g hg
    exact he.block _ this.2 (by omega)
theorem WC.keep (h : WC w0 wc l A bl lk Ab cb hd Ao co lim m Ap cp P) (he : Ex wc w2 S) (hS : ∀ j, j < wc.heap.size → ¬ S j) : WC w0 w2 l A bl lk Ab cb hd Ao co lim m Ap cp P := by
  obtain ⟨h1, h2⟩ := h.sz
  have hb : ∀ j, j < wc.heap.size → w2.heap[j]? = wc.heap[j]? := fun j hj => he.block j hj (hS j hj)
  refine ⟨he.below h.bel (fun k hk => hS k (by omega)) (by omega), h.ev.keep fun p hp => he.cell (by omega) (hS _ (by omega)), own_keep h.of fun g hg => hb g (World.ownsRow.lt h.of g hg).2, (World.cell?_of_block (w := wc) (hb (w0.heap.size + 2) (by omega))).trans h.var, h.web.kept (hb _ h.web.lt.2), h.blk.keep fun p _ h4 => he.cell (by omega) (hS _ (by omega)), own_keep h.ord fun g hg => hb g (World.ownsRow.lt h.ord g hg).2, h.ordL, h.pl.kept (hb _ h.pl.lt), h.pm.kept fun g hg => hb g (World.ownsRow.lt h.pm g hg).2, h1, by have := he.size; omega⟩
theorem WC.web0 (h : WC w0 wc l A bl lk Ab cb hd Ao co lim m Ap cp P) : wc.cell? ⟨w0.heap.size + 1, 0, none⟩ = some (.slice Ap P.length cp) := (h.web.cell (j := 0) (by omega)).1
theorem WC.web1 (h : WC w0 wc l A bl lk Ab cb hd Ao co lim m Ap cp P) : wc.cell? ⟨w0.heap.size + 1, 1, none⟩ = some (.slice (some ⟨w0.heap.size, 0, none⟩) l.length l.length) := (h.web.cell (j := 1) (by omega)).1
def upto (N k : Nat) : List Int := (List.range N).map fun i => if i < k then (i : Int) else 0
theorem upto_len (N k : Nat) : (upto N k).length = N := by simp [upto]
theorem upto_zero (N : Nat) : upto N 0 = List.replicate N 0 := by
  apply List.ext_getElem?
  intro i
  by_cases h : i < N
  · simp [upto, h]
  · rw [List.getElem?_eq_none (by simp [upto]; omega), List.getElem?_eq_none (by simp; omega)]
theorem upto_step (N k : Nat) : (upto N k).set k (k : Int) = upto N (k + 1) := by
  apply List.ext_getElem?
  intro i
  by_cases h : i < N
  · rw [List.getElem?_set]
    by_cases e : k = i
    · subst e
      simp [upto, h]
    · simp only [upto, List.getElem?_map, List.getElem?_range h, Option.map_some, if_neg e]
      congr 1
      by_cases h2 : i < k
      · rw [if_pos h2, if_pos (by omega)]
      · rw [if_neg h2, if_neg (by omega)]
  · rw [List.getElem?_eq_none (by simp [upto]; omega), List.getElem?_eq_none (by simp [upto]; omega)]
theorem upto_end (N : Nat) : upto N N = lks (List.range N) := by
  unfold upto lks
  refine List.map_congr_left fun i hi => ?_
  rw [if_pos (List.mem_range.1 hi)]
theorem Blk.eight (w : World) : Blk (w.alloc (.cells #[.slice none 0 0, .slice none 0 0, .slice none 0 0, .slice none 0 0, .slice none 0 0, .slice none 0 0, .slice none 0 0, .slice none 0 0] 171)) w.heap.size 171 w.heap.size 8 (fun _ => .slice none 0 0) := by
  refine Blk.of_heap (heap_at _ _ _ rfl) (Nat.le_refl _) rfl fun i hi => ?_
  have : i = 0 ∨ i = 1 ∨ i = 2 ∨ i = 3 ∨ i = 4 ∨ i = 5 ∨ i = 6 ∨ i = 7 := by omega
  rcases this with rfl | rfl | rfl | rfl | rfl | rfl | rfl | rfl <;> rfl
theorem Blk.eight0 (w : World) : Blk (w.alloc (.cells #[.int .i64 0, .int .i64 0, .int .i64 0, .int .i64 0, .int .i64 0, .int .i64 0, .int .i64 0, .int .i64 0] 168)) w.heap.size 168 w.heap.size 8 (fun _ => .int .i64 0) := by
  refine Blk.of_heap (heap_at _ _ _ rfl) (Nat.le_refl _) rfl fun i hi => ?_
  have : i = 0 ∨ i = 1 ∨ i = 2 ∨ i = 3 ∨ i = 4 ∨ i = 5 ∨ i = 6 ∨ i = 7 := by omega
  rcases this with rfl | rfl | rfl | rfl | rfl | rfl | rfl | rfl <;> rfl
theorem negs_ofL (l : List Ev) (P : List Pt) : negs l.length l.length = ofL l P [] := by
  rw [ofL_nil]
  apply List.ext_getElem?
  intro i
  by_cases h : i < l.length
  · simp [negs, h]
  · rw [List.getElem?_eq_none (by simp [negs]; omega), List.getElem?_eq_none (by simp; omega)]
theorem L5.start {gP gO : Nat} (s : List Nat) (h : WC w0 wc l A bl lk Ab cb hd Ao co lim m (some ⟨gP, 0, none⟩) cp P) (hO : Blk wc gO 171 gO 8 (fun _ => .slice none 0 0)) (hP : gP < gO) (hB : w0.heap.size < gO) :
    L5 wc wc (lim + 1) w0.heap.size gP gO cp l.length P (tnK P s 0) (fun t => ownP P (s.take 0) t) (fun _ => .slice none 0 0) (ofL l P (s.take 0)) := by
  have h1 := (World.ownsRow.lt h.pm gP rfl).1
  have h2 := hO.lt
  refine ⟨Ex.refl _ _, ?_, ⟨hO, h2.2, fun t _ => World.ownsRow_nil _ _ _ _, fun _ _ _ _ _ => .inl rfl⟩, ?_, ⟨by omega, by have := h.sz; omega, by omega⟩, by omega, h2.2, by omega⟩
  · rw [tnK_zero]
    exact h.pm
  · rw [List.take_zero, ← negs_ofL]
    exact h.of
end
end Go.Proofs.Ytjifpjfinffamaa
end
