/- Texts R8d RA RB R8e R0, laid together. -/
import Derived.Test.YtjifpjfinffamaaZ13
import Derived.Test.YtjifpjfinffamaaZ15
import Derived.Deep.RegionHeld3
section
namespace Go.Proofs.Ytjifpjfinffamaa
section
variable {N : Nat} {th tn : Nat → Nat} {own : Nat → List Nat} {sg : List Nat} {c : Ck} {j t : Nat}
theorem upN_other (th tn : Nat → Nat) (own : Nat → List Nat) (c : Ck) (t : Nat) {u : Nat} (hu : u ≠ t) : ∀ k, (upN th tn own c t k).dn u = c.dn u
  | 0 => rfl
  | k + 1 => by
    show (up1 th tn own (upN th tn own c t k) t).dn u = _
    unfold up1
    dsimp only
    rw [if_neg hu, upN_other th tn own c t hu k]
theorem ck_upN (h : Cal N th tn own sg) (hI : CkI N th tn own sg c j) : ∀ k, c.dn t + k ≤ (own t).length → (∀ x p : Nat, c.dn t ≤ x → x < c.dn t + k → (own t)[x]? = some p → ∀ i : Nat, sg[i]? ≠ some p) → CkI N th tn own sg (upN th tn own c t k) j
  | 0, _, _ => hI
  | k + 1, hk, hb => by
    have ih := ck_upN h hI k (by omega) (fun x p h1 h2 => hb x p h1 (by omega))
    obtain ⟨p, hp⟩ : ∃ p, (own t)[c.dn t + k]? = some p := ⟨_, List.getElem?_eq_getElem (by omega)⟩
    exact ih.up h (by rw [upN_dn]; exact hp) (hb _ p (by omega) (by omega) hp)
theorem ck_before (h : Cal N th tn own sg) (hI : CkI N th tn own sg c j) {p : Nat} (hp : sg[j]? = some p) : c.dn (th p) ≤ tn p ∧ tn p < (own (th p)).length ∧ CkI N th tn own sg (upN th tn own c (th p) (tn p - c.dn (th p))) j := by
  have h1 : ¬ tn p < c.dn (th p) := fun q => by have := (hI.blk j p hp).1 q; omega
  have hpN := h.sg_lt _ _ hp
  have h2 := (List.getElem?_eq_some_iff.1 (h.own_at p hpN)).1
  refine ⟨by omega, h2, ck_upN h hI _ (by omega) fun x q h3 h4 h5 i h6 => ?_⟩
  obtain ⟨q1, q2, q3⟩ := h.own_of _ _ _ h5
  have hij := h.mono i j q p h6 hp q2 (by omega)
  have := (hI.blk i q h6).2 hij
  rw [q2, q3] at this
  omega
theorem ck_rest (h : Cal N th tn own sg) (hI : CkI N th tn own sg c j) (hj : j = sg.length) (t : Nat) : c.dn t ≤ (own t).length ∧ CkI N th tn own sg (upN th tn own c t ((own t).length - c.dn t)) j := by
  have hle := hI.le t
  refine ⟨hle, ck_upN h hI _ (by omega) fun x q h3 h4 h5 i h6 => ?_⟩
  obtain ⟨q1, q2, q3⟩ := h.own_of _ _ _ h5
  have := (hI.blk i q h6).2 (by have := (List.getElem?_eq_some_iff.1 h6).1; omega)
  rw [q2, q3] at this
  omega
def lastO (sg : List Nat) (j : Nat) : Option Nat := if 0 < j then sg[j - 1]? else none
def lastV (sg : List Nat) (j : Nat) : Int := match lastO sg j with | some p => (p : Int) | none => -1
theorem lastV_zero (sg : List Nat) : lastV sg 0 = -1 := rfl
theorem lastO_succ {j p : Nat} (h : sg[j]? = some p) : lastO sg (j + 1) = some p := by unfold lastO; rw [if_pos (by omega)]; exact h
theorem lastV_succ {j p : Nat} (h : sg[j]? = some p) : lastV sg (j + 1) = (p : Int) := by unfold lastV; rw [lastO_succ h]
theorem last_cases (sg : List Nat) {j : Nat} (hj : j ≤ sg.length) : (lastV sg j = -1 ∧ lastO sg j = none) ∨ ∃ q : Nat, lastV sg j = (q : Int) ∧ lastO sg j = some q ∧ ∃ i, i < j ∧ sg[i]? = some q := by
  unfold lastV
  by_cases h : 0 < j
  · obtain ⟨q, hq⟩ : ∃ q, sg[j - 1]? = some q := ⟨_, List.getElem?_eq_getElem (by omega)⟩
    right
    have : lastO sg j = some q := by unfold lastO; rw [if_pos h]; exact hq
    exact ⟨q, by rw [this], this, j - 1, by omega, hq⟩
  · left
    have : lastO sg j = none := by unfold lastO; rw [if_neg h]
    exact ⟨by rw [this], this⟩
end
section
open Go.RowKit
variable {w w2 : World} {gO g d : Nat} {own : Nat → List Nat}
theorem OwR.old (h : OwR w gO g d own) (hk : ∀ k, k < w.heap.size → w2.heap[k]? = w.heap[k]?) : OwR w2 gO g d own := by
  have hc : ∀ p v, w.cell? p = some v → w2.cell? p = some v := fun p v hp => (World.cell?_of_block (w := w) (hk _ (World.block_lt_of_cell? w p hp))).trans hp
  refine ⟨h.ne, fun t ht => ?_⟩
  obtain ⟨A, c, h1, h2⟩ := h.at_ t ht
  refine ⟨A, c, hc _ _ h1, fun hp => ?_⟩
  obtain ⟨k, e, n1, n2, h3⟩ := h2 hp
  exact ⟨k, e, n1, n2, fun i p hi => hc _ _ (h3 i p hi)⟩
end
section
variable {l : List Ev} {bl : List Bl} {lk : List Nat} {s : List Nat}
theorem calB_ok (h : BlkF l bl lk) (hth : ∀ e ∈ l, 0 ≤ e.th ∧ e.th < 8) (hs : Srt l bl s) (hsl : s.length ≤ 1099511627776) : CalB (pts l bl) (tnP (pts l bl) s) (ownP (pts l bl) s) := by
  have hlen : ∀ t, (ownP (pts l bl) s t).length ≤ 1099511627776 := fun t => Nat.le_trans (ownP_len_le _ _ _) hsl
  refine ⟨fun p hp => pts_thr h hth hp, fun t i p hi => (hs.own_of hi).1, fun t i j p hi hj => ?_, fun p => ?_, hlen⟩
  · have a := (hs.own_of hi).2.2
    have b := (hs.own_of hj).2.2
    omega
  · unfold tnP
    exact Nat.le_trans List.idxOf_le_length (hlen _)
theorem sgP_len (bl : List Bl) (lk : List Nat) : (sgP bl lk).length = (ordS bl lk bl.length).length := by simp [sgP]
end
end Go.Proofs.Ytjifpjfinffamaa
end
section
namespace Go.Proofs.Ytjifpjfinffamaa
theorem srt_uniq {α : Type} {lt : α → α → Prop} (hi : ∀ a, ¬ lt a a) (ht : ∀ a b c, lt a b → lt b c → lt a c) : ∀ {a b : List α}, a.Pairwise lt → b.Pairwise lt → (∀ x, x ∈ a ↔ x ∈ b) → a = b
  | [], [], _, _, _ => rfl
  | [], y :: b, _, _, h => absurd ((h y).2 (by simp)) (by simp)
  | x :: a, [], _, _, h => absurd ((h x).1 (by simp)) (by simp)
  | x :: a, y :: b, ha, hb, h => by
    rw [List.pairwise_cons] at ha hb
    have hxy : x = y := by
      rcases List.mem_cons.1 ((h x).1 (by simp)) with e | e
      · exact e
      · rcases List.mem_cons.1 ((h y).2 (by simp)) with e2 | e2
        · exact e2.symm
        · exact absurd (ht _ _ _ (ha.1 y e2) (hb.1 x e)) (hi _)
    subst hxy
    congr 1
    refine srt_uniq hi ht ha.2 hb.2 fun z => ⟨fun hz => ?_, fun hz => ?_⟩
    · rcases List.mem_cons.1 ((h z).1 (List.mem_cons_of_mem _ hz)) with e | e
      · subst e; exact absurd (ha.1 z hz) (hi _)
      · exact e
    · rcases List.mem_cons.1 ((h z).2 (List.mem_cons_of_mem _ hz)) with e | e
      · subst e; exact absurd (hb.1 z hz) (hi _)
      · exact e
abbrev lexlt (a b : Nat × Nat) : Prop := a.1 < b.1 ∨ a.1 = b.1 ∧ a.2 < b.2
theorem lexlt_irrefl (a : Nat × Nat) : ¬ lexlt a a := by unfold lexlt; omega
theorem lexlt_trans (a b c : Nat × Nat) (h1 : lexlt a b) (h2 : lexlt b c) : lexlt a c := by unfold lexlt at *; omega
theorem strict_of {a : List (Nat × Nat)} (h1 : a.Pairwise fun x y => ¬ lexlt y x) (h2 : a.Nodup) : a.Pairwise lexlt := by
  refine (h1.and h2).imp ?_
  rintro ⟨a1, a2⟩ ⟨b1, b2⟩ ⟨h, hn⟩
  unfold lexlt at *
  have : ¬ (a1 = b1 ∧ a2 = b2) := fun q => hn (by rw [q.1, q.2])
  dsimp only at *
  omega
theorem Pairwise.nodup_lex {a : List (Nat × Nat)} (h : a.Pairwise lexlt) : a.Nodup := by
  refine List.Pairwise.imp ?_ h
  intro x y hxy e
  subst e
  exact lexlt_irrefl x hxy
section
variable {α : Type} (d : α) (f : α → α → Bool) (g : α → Nat) (L : List α)
def rc (i : Nat) : Nat → List (Nat × Nat)
  | 0 => []
  | m + 1 => if f (L.getD i d) (L.getD (i + 1 + m) d) = true then rc i m ++ [(g (L.getD i d), g (L.getD (i + 1 + m) d))] else rc i m
def rr : Nat → List (Nat × Nat)
  | 0 => []
  | i + 1 => rr i ++ rc d f g L i (L.length - (i + 1))
end
section
variable {α : Type} {d : α} {f : α → α → Bool} {g : α → Nat} {L : List α}
theorem rc_len (i : Nat) : ∀ m, (rc d f g L i m).length ≤ m
  | 0 => Nat.le_refl _
  | m + 1 => by
    have := rc_len i m
    unfold rc
    split
    · simp; omega
    · omega
theorem rr_len : ∀ n, (rr d f g L n).length ≤ n * L.length
  | 0 => by simp [rr]
  | n + 1 => by
    have h1 := rr_len n
    have h2 := rc_len (d := d) (f := f) (g := g) (L := L) n (L.length - (n + 1))
    unfold rr
    rw [List.length_append, Nat.succ_mul]
    omega
theorem rc_mem (i : Nat) (x : Nat × Nat) : ∀ m, x ∈ rc d f g L i m ↔ ∃ k, k < m ∧ f (L.getD i d) (L.getD (i + 1 + k) d) = true ∧ x = (g (L.getD i d), g (L.getD (i + 1 + k) d))
  | 0 => by simp [rc]
  | m + 1 => by
    unfold rc
    split
    · rename_i h
      rw [List.mem_append, rc_mem i x m, List.mem_singleton]
      constructor
      · rintro (⟨k, h1, h2, h3⟩ | h1)
        · exact ⟨k, by omega, h2, h3⟩
        · exact ⟨m, by omega, h, h1⟩
      · rintro ⟨k, h1, h2, h3⟩
        by_cases e : k = m
        · subst e; exact .inr h3
        · exact .inl ⟨k, by omega, h2, h3⟩
    · rename_i h
      rw [rc_mem i x m]
      constructor
      · rintro ⟨k, h1, h2, h3⟩
        exact ⟨k, by omega, h2, h3⟩
      · rintro ⟨k, h1, h2, h3⟩
        by_cases e : k = m
        · subst e; exact absurd h2 h
        · exact ⟨k, by omega, h2, h3⟩
theorem rr_mem_at (x : Nat × Nat) : ∀ n, x ∈ rr d f g L n ↔ ∃ i k, i < n ∧ i + 1 + k < L.length ∧ f (L.getD i d) (L.getD (i + 1 + k) d) = true ∧ x = (g (L.getD i d), g (L.getD (i + 1 + k) d))
  | 0 => by simp [rr]
  | n + 1 => by
    unfold rr
    rw [List.mem_append, rr_mem_at x n, rc_mem]
    constructor
    · rintro (⟨i, k, h1, h2, h3⟩ | ⟨k, h1, h2⟩)
      · exact ⟨i, k, by omega, h2, h3⟩
      · exact ⟨n, k, by omega, by omega, h2⟩
    · rintro ⟨i, k, h1, h2, h3⟩
      by_cases e : i = n
      · subst e; exact .inr ⟨k, by omega, h3⟩
      · exact .inl ⟨i, k, by omega, h2, h3⟩
theorem g_lt (hs : L.Pairwise fun a b => g a < g b) {i j : Nat} (hi : i < L.length) (hj : j < L.length) : i < j ↔ g (L.getD i d) < g (L.getD j d) := by
  have h' := List.pairwise_iff_getElem.1 hs
  have e1 : L.getD i d = L[i] := by simp [List.getD, hi]
  have e2 : L.getD j d = L[j] := by simp [List.getD, hj]
  rw [e1, e2]
  constructor
  · intro h; exact h' i j hi hj h
  · intro h
    rcases Nat.lt_trichotomy i j with c | c | c
    · exact c
    · subst c; omega
    · have := h' j i hj hi c; omega
theorem g_inj (hs : L.Pairwise fun a b => g a < g b) {a b : α} (ha : a ∈ L) (hb : b ∈ L) (h : g a = g b) : a = b := by
  obtain ⟨i, hi, e1⟩ := List.mem_iff_getElem.1 ha
  obtain ⟨j, hj, e2⟩ := List.mem_iff_getElem.1 hb
  have h' := List.pairwise_iff_getElem.1 hs
  rcases Nat.lt_trichotomy i j with c | c | c
  · have := h' i j hi hj c; rw [e1, e2] at this; omega
  · subst c; rw [← e1, ← e2]
  · have := h' j i hj hi c; rw [e1, e2] at this; omega
theorem rr_mem (hs : L.Pairwise fun a b => g a < g b) (x : Nat × Nat) : x ∈ rr d f g L L.length ↔ ∃ a b, a ∈ L ∧ b ∈ L ∧ g a < g b ∧ f a b = true ∧ x = (g a, g b) := by
  rw [rr_mem_at]
  constructor
  · rintro ⟨i, k, h1, h2, h3, h4⟩
    refine ⟨_, _, ?_, ?_, (g_lt (d := d) hs h1 h2).1 (by omega), h3, h4⟩
    · simp [List.getD, h1]
    · simp [List.getD, h2]
  · rintro ⟨a, b, h1, h2, h3, h4, h5⟩
    obtain ⟨i, hi, e1⟩ := List.mem_iff_getElem.1 h1
    obtain ⟨j, hj, e2⟩ := List.mem_iff_getElem.1 h2
    have d1 : L.getD i d = a := by simp [List.getD, hi, e1]
    have d2 : L.getD j d = b := by simp [List.getD, hj, e2]
    have hij : i < j := (g_lt (d := d) hs hi hj).2 (by rw [d1, d2]; exact h3)
    refine ⟨i, j - (i + 1), hi, by omega, ?_, ?_⟩
    · rw [show i + 1 + (j - (i + 1)) = j by omega, d1, d2]; exact h4
    · rw [show i + 1 + (j - (i + 1)) = j by omega, d1, d2]; exact h5
theorem rc_sorted (hs : L.Pairwise fun a b => g a < g b) {i : Nat} : ∀ m, i + m < L.length → (rc d f g L i m).Pairwise lexlt
  | 0, _ => by unfold rc; exact List.Pairwise.nil
  | m + 1, hm => by
    have ih := rc_sorted hs (i := i) m (by omega)
    unfold rc
    split
    · rw [List.pairwise_append]
      refine ⟨ih, List.pairwise_singleton _ _, fun x hx y hy => ?_⟩
      obtain ⟨k, h1, _, rfl⟩ := (rc_mem i x m).1 hx
      obtain rfl := List.mem_singleton.1 hy
      exact .inr ⟨rfl, (g_lt (d := d) hs (by omega) (by omega)).1 (by omega)⟩
    · exact ih
theorem rr_sorted (hs : L.Pairwise fun a b => g a < g b) : ∀ n, n ≤ L.length → (rr d f g L n).Pairwise lexlt
  | 0, _ => by unfold rr; exact List.Pairwise.nil
  | n + 1, hn => by
    unfold rr
    rw [List.pairwise_append]
    refine ⟨rr_sorted hs n (by omega), rc_sorted hs _ (by omega), fun x hx y hy => ?_⟩
    obtain ⟨i, k, h1, h2, _, rfl⟩ := (rr_mem_at x n).1 hx
    obtain ⟨k2, _, _, rfl⟩ := (rc_mem n y _).1 hy
    exact .inl ((g_lt (d := d) hs (by omega) (by omega)).1 h1)
def rcl (d : α) (f : α → α → Bool) (g : α → Nat) (ad : α → Int) (L : List α) (cs : List Int) : List (Nat × Nat) := cs.flatMap fun c => rr d f g (L.filter fun a => ad a == c) (L.filter fun a => ad a == c).length
variable {ad : α → Int} {cs : List Int}
theorem rcl_mem (hs : L.Pairwise fun a b => g a < g b) (hc : ∀ a ∈ L, ad a ∈ cs) (x : Nat × Nat) : x ∈ rcl d f g ad L cs ↔ x ∈ rr d (fun a b => ad a == ad b && f a b) g L L.length := by
  unfold rcl
  rw [List.mem_flatMap, rr_mem hs]
  constructor
  · rintro ⟨c, _, hx⟩
    rw [rr_mem (hs.sublist List.filter_sublist)] at hx
    obtain ⟨a, b, h1, h2, h3, h4, h5⟩ := hx
    rw [List.mem_filter] at h1 h2
    refine ⟨a, b, h1.1, h2.1, h3, ?_, h5⟩
    have e1 := eq_of_beq h1.2
    have e2 := eq_of_beq h2.2
    simp [e1, e2, h4]
  · rintro ⟨a, b, h1, h2, h3, h4, h5⟩
    simp only [Bool.and_eq_true, beq_iff_eq] at h4
    refine ⟨ad a, hc a h1, ?_⟩
    rw [rr_mem (hs.sublist List.filter_sublist)]
    exact ⟨a, b, List.mem_filter.2 ⟨h1, by simp⟩, List.mem_filter.2 ⟨h2, by simp [h4.1]⟩, h3, h4.2, h5⟩
theorem rcl_nodup (hs : L.Pairwise fun a b => g a < g b) : ∀ {cs : List Int}, cs.Nodup → (rcl d f g ad L cs).Nodup
  | [], _ => by unfold rcl; exact List.Pairwise.nil
  | c :: cs, h => by
    rw [List.nodup_cons] at h
    have ih := rcl_nodup hs h.2
    show (rr d f g _ _ ++ rcl d f g ad L cs).Nodup
    rw [List.nodup_append]
    refine ⟨Pairwise.nodup_lex (rr_sorted (hs.sublist List.filter_sublist) _ (Nat.le_refl _)), ih, fun x hx y hy e => ?_⟩
    subst e
    rw [rr_mem (hs.sublist List.filter_sublist)] at hx
    unfold rcl at hy
    obtain ⟨c', hc', hy⟩ := List.mem_flatMap.1 hy
    rw [rr_mem (hs.sublist List.filter_sublist)] at hy
    obtain ⟨a, b, h1, h2, h3, h4, h5⟩ := hx
    obtain ⟨a', b', g1, g2, g3, g4, g5⟩ := hy
    rw [List.mem_filter] at h1 g1
    rw [h5] at g5
    injection g5 with g5 _
    have := g_inj hs h1.1 g1.1 g5
    subst this
    have e1 := eq_of_beq h1.2
    have e2 := eq_of_beq g1.2
    exact h.1 (by rw [← e1, e2]; exact hc')
theorem sorted_rr (hs : L.Pairwise fun a b => g a < g b) (hc : ∀ a ∈ L, ad a ∈ cs) (hn : cs.Nodup) {s : List (Nat × Nat)} (hp : s.Perm (rcl d f g ad L cs)) (h : s.Pairwise fun x y => ¬ lexlt y x) : s = rr d (fun a b => ad a == ad b && f a b) g L L.length :=
  srt_uniq lexlt_irrefl lexlt_trans (strict_of h (hp.nodup_iff.2 (rcl_nodup hs hn))) (rr_sorted hs _ (Nat.le_refl _)) fun x => by rw [hp.mem_iff, rcl_mem hs hc]
end
end Go.Proofs.Ytjifpjfinffamaa
end
section
namespace Go.Proofs.Ytjifpjfinffamaa
structure Acc where
  ev : Nat
  th : Int
  ad : Int
  wr : Bool
  pl : Bool
deriving DecidableEq
def ac0 : Acc := ⟨0, 0, 0, false, false⟩
section
variable (l : List Ev) (bl : List Bl) (lk : List Nat)
def ofP (k : Nat) : Int := ofS l (pts l bl) (List.range (pts l bl).length) k
def wrP (k : Nat) : Bool := (blAt bl (ptAt (pts l bl) (ofP l bl k).toNat).bk.toNat).wr
def accAt (k : Nat) : Option Acc :=
  if PlK (l.getD k ev0).kind then some ⟨k, (l.getD k ev0).th, (l.getD k ev0).addr, decide ((l.getD k ev0).kind = 11), true⟩
  else if (l.getD k ev0).kind = 2 then (if (l.getD k ev0).own = false ∧ 0 ≤ ofP l bl k then some ⟨k, (l.getD k ev0).th, (l.getD k ev0).addr, false, false⟩ else none)
  else if (l.getD k ev0).kind = 3 then (if 0 ≤ ofP l bl k ∧ wrP l bl k = true then some ⟨k, (l.getD k ev0).th, (l.getD k ev0).addr, true, false⟩ else none)
  else none
def accL : Nat → List Acc
  | 0 => []
  | n + 1 => match accAt l bl n with | some a => accL n ++ [a] | none => accL n
def raceF (a b : Acc) : Bool := !(a.th == b.th) && (a.pl || b.pl) && (a.wr || b.wr) && !aheadP l bl lk (ofP l bl a.ev).toNat (ofP l bl b.ev).toNat && !aheadP l bl lk (ofP l bl b.ev).toNat (ofP l bl a.ev).toNat
def raL : List (Nat × Nat) := rr ac0 (fun a b => a.ad == b.ad && raceF l bl lk a b) Acc.ev (accL l bl l.length) (accL l bl l.length).length
def tellS (e : Nat) (s : Int × Int) (a : Acc) : Int × Int :=
  if a.wr = true ∧ a.ad = (l.getD e ev0).addr ∧ aheadP l bl lk (ofP l bl a.ev).toNat (ofP l bl e).toNat = true then
    (if s.1 < 0 ∨ s.1 = ofP l bl a.ev ∨ aheadP l bl lk s.1.toNat (ofP l bl a.ev).toNat = true then (ofP l bl a.ev, (l.getD a.ev ev0).word) else s) else s
end
section
variable {l : List Ev} {bl : List Bl} {lk : List Nat}
theorem accL_succ (n : Nat) : accL l bl (n + 1) = match accAt l bl n with | some a => accL l bl n ++ [a] | none => accL l bl n := rfl
theorem ofP_lt {k : Nat} (h : 0 ≤ ofP l bl k) : (ofP l bl k).toNat < (pts l bl).length ∧ HasE l (pts l bl) (ofP l bl k).toNat k := by
  unfold ofP ofS at *
  cases hf : (List.range (pts l bl).length).find? (fun p => decide (HasE l (pts l bl) p k)) with
  | none => rw [hf] at h; dsimp only at h; omega
  | some p =>
    dsimp only
    have h1 := List.find?_some hf
    have h2 := List.mem_of_find?_eq_some hf
    rw [Int.toNat_natCast]
    exact ⟨List.mem_range.1 h2, of_decide_eq_true h1⟩
theorem ofP_cases (l : List Ev) (bl : List Bl) (k : Nat) : ofP l bl k = -1 ∨ ∃ p : Nat, ofP l bl k = (p : Int) ∧ p < (pts l bl).length := by
  unfold ofP ofS
  cases hf : (List.range (pts l bl).length).find? (fun p => decide (HasE l (pts l bl) p k)) with
  | none => exact .inl rfl
  | some p => exact .inr ⟨p, rfl, List.mem_range.1 (List.mem_of_find?_eq_some hf)⟩
theorem ofP_plain (h : BlkF l bl lk) {k : Nat} (hk : k < l.length) (hp : PlK (l.getD k ev0).kind) : ofP l bl k = (((ptsB bl bl.length).length + (ptsE l k).length : Nat) : Int) := by
  obtain ⟨h1, h2⟩ := pts_plain (bl := bl) hk hp
  unfold ofP
  refine ofS_some h (fun p hp => List.mem_range.1 hp) (List.mem_range.2 h1) ?_
  unfold HasE
  rw [h2]
  exact ⟨Nat.le_refl _, Nat.le_refl _, rfl⟩
theorem ofP_block {k : Nat} (h : 0 ≤ ofP l bl k) (hk : ¬ PlK (l.getD k ev0).kind) : ∃ i : Nat, i < bl.length ∧ (ptAt (pts l bl) (ofP l bl k).toNat).bk = (i : Int) := by
  obtain ⟨h1, h2, h3, _⟩ := ofP_lt h
  rcases pts_inv h1 with ⟨i, a1, _, _, a4⟩ | ⟨i, _, a2, _, a4⟩
  · exact ⟨i, a1, by rw [a4]; rfl⟩
  · rw [a4] at h2 h3
    simp only [ptOfE] at h2 h3
    obtain rfl : i = k := by omega
    exact absurd a2 hk
theorem accAt_ev {k : Nat} {a : Acc} (h : accAt l bl k = some a) : a.ev = k := by
  unfold accAt at h
  repeat' split at h
  all_goals first | (injection h with h; subst h; rfl) | cases h
theorem accAt_of (hF : BlkF l bl lk) {k : Nat} (hk : k < l.length) {a : Acc} (h : accAt l bl k = some a) : 0 ≤ ofP l bl k := by
  unfold accAt at h
  split at h
  · rename_i hp
    rw [ofP_plain hF hk hp]
    omega
  · repeat' split at h
    all_goals first | (cases h; done) | (rename_i q _ ; exact q.2) | (rename_i q; exact q.2) | (rename_i q; exact q.1)
theorem accL_mem : ∀ {n : Nat} {a : Acc}, a ∈ accL l bl n ↔ a.ev < n ∧ accAt l bl a.ev = some a
  | 0, a => by simp [accL]
  | n + 1, a => by
    rw [accL_succ]
    constructor
    · intro h
      split at h
      · rename_i b hb
        rcases List.mem_append.1 h with h | h
        · obtain ⟨h1, h2⟩ := accL_mem.1 h
          exact ⟨by omega, h2⟩
        · obtain rfl := List.mem_singleton.1 h
          have := accAt_ev hb
          exact ⟨by omega, by rw [this]; exact hb⟩
      · obtain ⟨h1, h2⟩ := accL_mem.1 h
        exact ⟨by omega, h2⟩
    · rintro ⟨h1, h2⟩
      by_cases e : a.ev = n
      · rw [e] at h2
        rw [h2]
        simp
      · have := accL_mem.2 ⟨show a.ev < n by omega, h2⟩
        split
        · exact List.mem_append_left _ this
        · exact this
theorem accL_sorted : ∀ n, (accL l bl n).Pairwise fun a b => a.ev < b.ev
  | 0 => by unfold accL; exact List.Pairwise.nil
  | n + 1 => by
    rw [accL_succ]
    split
    · rename_i b hb
      rw [List.pairwise_append]
      refine ⟨accL_sorted n, List.pairwise_singleton _ _, fun x hx y hy => ?_⟩
      obtain rfl := List.mem_singleton.1 hy
      rw [accAt_ev hb]
      exact (accL_mem.1 hx).1
    · exact accL_sorted n
theorem accL_len : ∀ n, (accL l bl n).length ≤ n
  | 0 => Nat.le_refl _
  | n + 1 => by
    have := accL_len n
    rw [accL_succ]
    split
    · simp; omega
    · omega
end
end Go.Proofs.Ytjifpjfinffamaa
end
section
namespace Go.Proofs.Ytjifpjfinffamaa
open Go.RowKit Go.Maps
section
variable {w0 wC wr : World} {l : List Ev} {A : Option Addr} {bl : List Bl} {lk : List Nat} {Ab : Option Addr} {cb : Nat} {hd : Nat → Value} {Ao : Option Addr} {co m : Nat} {Ap : Option Addr} {cp lim gP gO : Nat} {P : List Pt} {tn tn' : Nat → Nat} {own : Nat → List Nat} {hd5 : Nat → Value} {xs : List Int}
theorem UpI.start (hW : WC w0 wC l A bl lk Ab cb hd Ao co lim m (some ⟨gP, 0, none⟩) cp P) (hL : L5 wC wr (lim + 1) w0.heap.size gP gO cp l.length P tn' own hd5 xs) (htn : ∀ i, i < P.length → tn' i = tn i) (hgO : gP < gO) :
    UpI (wr.alloc (.cells #[.int .i64 0, .int .i64 0, .int .i64 0, .int .i64 0, .int .i64 0, .int .i64 0, .int .i64 0, .int .i64 0] 168)) (lim + 1) gP cp wr.heap.size gO (w0.heap.size + 1 + 1) (w0.heap.size + 1) P tn own ⟨fun _ _ => 0, fun _ => 0⟩ := by
  obtain ⟨⟨n1, n2, n3⟩, n4, n5, n6⟩ := hL.ne
  have hs := hL.ex.size
  have hz := hW.sz
  have hgP := (World.ownsRow.lt hW.pm gP rfl).1
  have hnew : ∀ k, k < wr.heap.size → (wr.alloc (.cells #[.int .i64 0, .int .i64 0, .int .i64 0, .int .i64 0, .int .i64 0, .int .i64 0, .int .i64 0, .int .i64 0] 168)).heap[k]? = wr.heap[k]? := fun k hk => Below.heap_alloc _ _ _ hk
  have hold : ∀ k, k < wC.heap.size → k ≠ gP → k ≠ gO → k ≠ w0.heap.size → (wr.alloc (.cells #[.int .i64 0, .int .i64 0, .int .i64 0, .int .i64 0, .int .i64 0, .int .i64 0, .int .i64 0, .int .i64 0] 168)).heap[k]? = wC.heap[k]? := fun k h1 h2 h3 h4 => (hnew k (by omega)).trans (hL.ex.block k h1 (by rintro (h | h | h) <;> omega))
  have hcell : ∀ (p : Addr) v, p.block < wC.heap.size → p.block ≠ gP → p.block ≠ gO → p.block ≠ w0.heap.size → wC.cell? p = some v → (wr.alloc (.cells #[.int .i64 0, .int .i64 0, .int .i64 0, .int .i64 0, .int .i64 0, .int .i64 0, .int .i64 0, .int .i64 0] 168)).cell? p = some v := fun p v h1 h2 h3 h4 h5 => (World.cell?_of_block (w := wC) (hold _ h1 h2 h3 h4)).trans h5
  refine ⟨(hL.pm.tnc htn).kept fun g hg => hnew g (World.ownsRow.lt hL.pm g hg).2, ((Blk.eight0 wr).base' (by omega)).congr fun _ _ => rfl, ?_, ?_, ?_, ⟨by omega, by omega, by omega, by omega, by omega⟩⟩
  · exact (hL.ow.reads ⟨by omega, by omega⟩ (fun k h1 h2 => ⟨by omega, by omega⟩)).old fun k hk => hnew k hk
  · exact hcell ⟨w0.heap.size + 1 + 1, 0, none⟩ _ (by show w0.heap.size + 1 + 1 < _; omega) (by show w0.heap.size + 1 + 1 ≠ _; omega) (by show w0.heap.size + 1 + 1 ≠ _; omega) (by show w0.heap.size + 1 + 1 ≠ _; omega) hW.var
  · exact hcell ⟨w0.heap.size + 1, 0, none⟩ _ (by show w0.heap.size + 1 < _; omega) (by show w0.heap.size + 1 ≠ _; omega) (by show w0.heap.size + 1 ≠ _; omega) (by show w0.heap.size + 1 ≠ _; omega) hW.web0
end
theorem UpI.drew {w : World} {base g c d gO gV gW : Nat} {P : List Pt} {tn : Nat → Nat} {own : Nat → List Nat} {st : Ck} (h : UpI w base g c d gO gV gW P tn own st) : UpI w.drew base g c d gO gV gW P tn own st :=
  ⟨h.pm.drew, h.dn, h.ow.kq ⟨rfl, rfl, rfl, rfl, fun _ _ _ => rfl⟩, h.v, h.p, h.ne⟩
theorem Kq.drew {a b : World} {g d : Nat} (h : Kq a b g d) : Kq a b.drew g d := ⟨h.os, h.tape, h.output, h.size, h.block⟩
theorem ordS_len_le (bl : List Bl) (lk : List Nat) : (ordS bl lk bl.length).length ≤ bl.length := by
  rw [(ordS_perm bl lk bl.length).length_eq]
  exact Nat.le_trans (List.length_filter_le _ _) (by simp)
structure WebR (w : World) (hi gW gF : Nat) (Ap : Option Addr) (cp : Nat) (Ab : Option Addr) (cb : Nat) (hd : Nat → Value) (l : List Ev) (bl : List Bl) (lk : List Nat) (sn : Nat → Nat → Nat) (tn : Nat → Nat) : Prop where
  lt : gW < hi ∧ gF < hi
  c0 : w.cell? ⟨gW, 0, none⟩ = some (.slice Ap (pts l bl).length cp)
  c1 : w.cell? ⟨gW, 1, none⟩ = some (.slice (some ⟨gF, 0, none⟩) l.length l.length)
  c2 : w.cell? ⟨gW, 2, none⟩ = some (.slice Ab bl.length cb)
  of : ∀ i, i < l.length → w.cell? ⟨gF, i, none⟩ = some (.int .i64 (ofP l bl i))
  pt : 0 < (pts l bl).length → ∃ g, Ap = some ⟨g, 0, none⟩ ∧ g < hi ∧ ∀ j t, j < (pts l bl).length → t < 13 → w.cell? ⟨g, j * 13 + t, none⟩ = some (pcell (ptAt (pts l bl) j) (sn j) (tn j) t)
  bk : RB w 0 hi Ab bl.length bl hd
  ah : ∀ p q, p < (pts l bl).length → q < (pts l bl).length → ((p ≠ q ∧ tn p < sn q (thP (pts l bl) p)) ↔ aheadP l bl lk p q = true)
section
variable {w w2 : World} {hi hi2 gW gF : Nat} {Ap : Option Addr} {cp : Nat} {Ab : Option Addr} {cb : Nat} {hd : Nat → Value} {l : List Ev} {bl : List Bl} {lk : List Nat} {sn : Nat → Nat → Nat} {tn : Nat → Nat}
theorem WebR.below (h : WebR w hi gW gF Ap cp Ab cb hd l bl lk sn tn) (hb : Below hi w w2) : WebR w2 hi gW gF Ap cp Ab cb hd l bl lk sn tn := by
  refine ⟨h.lt, (hb.cell (p := ⟨gW, 0, none⟩) h.lt.1).trans h.c0, (hb.cell (p := ⟨gW, 1, none⟩) h.lt.1).trans h.c1, (hb.cell (p := ⟨gW, 2, none⟩) h.lt.1).trans h.c2, fun i hi' => (hb.cell (p := ⟨gF, i, none⟩) h.lt.2).trans (h.of i hi'), fun hp => ?_, h.bk.below hb, h.ah⟩
  obtain ⟨g, e, h1, h2⟩ := h.pt hp
  exact ⟨g, e, h1, fun j t hj ht => (hb.cell (p := ⟨g, j * 13 + t, none⟩) h1).trans (h2 j t hj ht)⟩
theorem WebR.more (h : WebR w hi gW gF Ap cp Ab cb hd l bl lk sn tn) (hh : hi ≤ hi2) : WebR w hi2 gW gF Ap cp Ab cb hd l bl lk sn tn := by
  refine ⟨⟨by have := h.lt; omega, by have := h.lt; omega⟩, h.c0, h.c1, h.c2, h.of, fun hp => ?_, h.bk.more (Nat.le_refl _) hh, h.ah⟩
  obtain ⟨g, e, h1, h2⟩ := h.pt hp
  exact ⟨g, e, by omega, h2⟩
end
section
variable {w0 wC wL wF : World} {l : List Ev} {A : Option Addr} {bl : List Bl} {lk : List Nat} {Ab : Option Addr} {cb : Nat} {hd : Nat → Value} {Ao : Option Addr} {co m : Nat} {cp lim gP gO : Nat} {tn' : Nat → Nat} {own' : Nat → List Nat} {hd5 : Nat → Value} {s : List Nat} {st : Ck} {j : Nat}
theorem ofP_list (hF : BlkF l bl lk) (hS : Srt l bl s) {i : Nat} (hi : i < l.length) : (ofL l (pts l bl) s)[i]? = some (ofP l bl i) := by
  unfold ofL ofP
  rw [List.getElem?_map, List.getElem?_range hi, Option.map_some]
  congr 1
  exact ofS_perm hF (fun p hp => (hS.mem p).1 hp) (fun p => by rw [hS.mem, List.mem_range]) i
theorem ahead_tells (hF : BlkF l bl lk) (hPT : PartL lk bl.length) (hTH : ∀ e ∈ l, 0 ≤ e.th ∧ e.th < 8) (hS : Srt l bl s) (hC : CkI (pts l bl).length (thP (pts l bl)) (tnP (pts l bl) s) (ownP (pts l bl) s) (sgP bl lk) st j) (hall : ∀ u, u < 8 → st.dn u = (ownP (pts l bl) s u).length)
    {p q : Nat} (hp : p < (pts l bl).length) (hq : q < (pts l bl).length) : (p ≠ q ∧ tnP (pts l bl) s p < st.sn q (thP (pts l bl) p)) ↔ aheadP l bl lk p q = true := by
  have hcal := cal_ok hF hPT hTH hS
  obtain ⟨h1, h2⟩ := hC.tells hcal (fun t ⟨x, hx, hxt⟩ => hall t (by
    have := pts_thr hF hTH hx
    unfold thP at hxt
    omega)) hq hp
  rw [aheadP_iff hF hPT hTH hS p q, ← h1]
  refine ⟨fun h => h.2, fun h => ⟨fun e => ?_, h⟩⟩
  subst e
  exact h2 (h1.1 h)
theorem WebR.of_ (o : Obj) (hF : BlkF l bl lk) (hPT : PartL lk bl.length) (hTH : ∀ e ∈ l, 0 ≤ e.th ∧ e.th < 8) (hS : Srt l bl s) (hW : WC w0 wC l A bl lk Ab cb hd Ao co lim m (some ⟨gP, 0, none⟩) cp (pts l bl))
    (hL : L5 wC wL (lim + 1) w0.heap.size gP gO cp l.length (pts l bl) tn' own' hd5 (ofL l (pts l bl) s)) (hK : Kq (wL.alloc o) wF gP wL.heap.size)
    (hU : UpI wF (lim + 1) gP cp wL.heap.size gO (w0.heap.size + 1 + 1) (w0.heap.size + 1) (pts l bl) (tnP (pts l bl) s) (ownP (pts l bl) s) st)
    (hC : CkI (pts l bl).length (thP (pts l bl)) (tnP (pts l bl) s) (ownP (pts l bl) s) (sgP bl lk) st j) (hall : ∀ u, u < 8 → st.dn u = (ownP (pts l bl) s u).length) (hgO : gP < gO) :
    Below w0.heap.size w0 wF ∧ WebR wF wF.heap.size (w0.heap.size + 1) w0.heap.size (some ⟨gP, 0, none⟩) cp Ab cb hd l bl lk st.sn (tnP (pts l bl) s) := by
  obtain ⟨⟨n1, n2, n3⟩, n4, n5, n6⟩ := hL.ne
  have hs := hL.ex.size
  have hz := hW.sz
  have hgP := (World.ownsRow.lt hW.pm gP rfl).1
  have hsF : wF.heap.size = wL.heap.size + 1 := by rw [hK.size]; simp
  have hnew : ∀ k, k < wL.heap.size → k ≠ gP → wF.heap[k]? = wL.heap[k]? := fun k hk hne => (hK.block k hne (by omega)).trans (Below.heap_alloc _ _ _ hk)
  have hold : ∀ k, k < wC.heap.size → k ≠ gP → k ≠ gO → k ≠ w0.heap.size → wF.heap[k]? = wC.heap[k]? := fun k h1 h2 h3 h4 => (hnew k (by omega) h2).trans (hL.ex.block k h1 (by rintro (h | h | h) <;> omega))
  have hcell : ∀ (p : Addr), p.block < wC.heap.size → p.block ≠ gP → p.block ≠ gO → p.block ≠ w0.heap.size → wF.cell? p = wC.cell? p := fun p h1 h2 h3 h4 => World.cell?_of_block (w := wC) (hold _ h1 h2 h3 h4)
  have hb1 : Below w0.heap.size w0 (wL.alloc o) := (hL.ex.below hW.bel (fun k hk => by rintro (h | h | h) <;> omega) (by omega)).alloc (by omega) o
  have hw2 := (hW.web.cell (j := 2) (by omega)).1
  refine ⟨⟨hK.os.trans hb1.os, hK.tape.trans hb1.tape, hK.output.trans hb1.output, by have := hb1.size; have := hK.size; omega, fun k hk => (hK.block k (by omega) (by omega)).trans (hb1.block k hk)⟩, ⟨by omega, by omega⟩, hU.p, ?_, ?_, fun i hi => ?_, fun hp => ⟨gP, rfl, by omega, fun j t hj ht => hU.pm.cell hj ht⟩, ?_, fun p q hp hq => ahead_tells hF hPT hTH hS hC hall hp hq⟩
  · exact (hcell ⟨w0.heap.size + 1, 1, none⟩ (by show w0.heap.size + 1 < _; omega) (by show w0.heap.size + 1 ≠ _; omega) (by show w0.heap.size + 1 ≠ _; omega) (by show w0.heap.size + 1 ≠ _; omega)).trans hW.web1
  · exact (hcell ⟨w0.heap.size + 1, 2, none⟩ (by show w0.heap.size + 1 < _; omega) (by show w0.heap.size + 1 ≠ _; omega) (by show w0.heap.size + 1 ≠ _; omega) (by show w0.heap.size + 1 ≠ _; omega)).trans hw2
  · obtain ⟨x, hx, hc, _⟩ := hL.of.get (j := i) (by rw [ofL_len]; exact hi)
    rw [ofP_list hF hS hi] at hx
    injection hx with hx
    rw [hx]
    exact (World.cell?_of_block (w := wL) (hnew w0.heap.size (by omega) (by omega))).trans hc
  · exact (hW.blk.keep fun p h1 h2 => hcell p (by omega) (by omega) (by omega) (by omega)).more (Nat.zero_le _) (by omega)
theorem WebR.zero {Ap : Option Addr} (o : Obj) (hF : BlkF l bl lk) (hS : Srt l bl s) (hW : WC w0 wC l A bl lk Ab cb hd Ao co lim m Ap cp (pts l bl)) (h0 : (pts l bl).length = 0) :
    Below w0.heap.size w0 (wC.alloc o) ∧ WebR (wC.alloc o) (wC.alloc o).heap.size (w0.heap.size + 1) w0.heap.size Ap cp Ab cb hd l bl lk (fun _ _ => 0) (fun _ => 0) := by
  have hz := hW.sz
  have hsz : (wC.alloc o).heap.size = wC.heap.size + 1 := by simp
  have he : Ex wC (wC.alloc o) (fun _ => False) := (Ex.refl wC _).alloc o
  have hW2 := hW.keep he (fun _ _ h => h)
  have hw2 := (hW2.web.cell (j := 2) (by omega)).1
  have hs0 : s = [] := by
    cases s with
    | nil => rfl
    | cons a r =>
      have := (hS.mem a).1 (by simp)
      omega
  refine ⟨hW2.bel, ⟨by omega, by omega⟩, hW2.web0, hW2.web1, hw2, fun i hi => ?_, fun hp => absurd hp (by omega), hW2.blk.more (Nat.zero_le _) (by omega), fun p q hp _ => absurd hp (by omega)⟩
  obtain ⟨x, hx, hc, _⟩ := hW2.of.get (j := i) (by rw [negs_len]; exact hi)
  rw [negs_ofL l (pts l bl)] at hx
  have := ofP_list hF hS hi
  rw [hs0, hx] at this
  injection this with this
  rw [← this]
  exact hc
theorem ordS_none (hF : BlkF l bl lk) (hPT : PartL lk bl.length) (hTH : ∀ e ∈ l, 0 ≤ e.th ∧ e.th < 8) (hS : Srt l bl s) (h0 : (pts l bl).length = 0) : (ordS bl lk bl.length).length = 0 := by
  rcases Nat.eq_zero_or_pos (ordS bl lk bl.length).length with h | h
  · exact h
  · have hc := cal_ok hF hPT hTH hS
    have := hc.sg_lt 0 _ (List.getElem?_eq_getElem (by rw [sgP_len]; exact h))
    omega
end
end Go.Proofs.Ytjifpjfinffamaa
end
section
namespace Go.Proofs.Ytjifpjfinffamaa
section
variable {P : Program} {ops : Array Oper} {Q : Exit → Act → World → Prop} {md : Region.Mode} {S : World → Prop} {c : Nat}
def waitsC (md : Region.Mode) (ops : Array Oper) (x y : Nat) : Bool := match ops[x]? with | some o => o.after.any (fun e => Region.binds md e && e.on == y) | none => false
def pathC (md : Region.Mode) (ops : Array Oper) (i : Nat) : List Nat → Bool
  | [] => true
  | [x] => waitsC md ops x i
  | x :: y :: r => waitsC md ops x y && pathC md ops i (y :: r)
theorem waitsC_not {listed : Array Bool} {x y : Nat} (h : waitsC md ops x y = true) (hy : listed.getD y false = false) : x ∉ Region.ready md ops listed := by
  intro hx
  obtain ⟨_, o, ho, hall⟩ := mem_ready.1 hx
  unfold waitsC at h
  rw [ho] at h
  simp only [Array.any_eq_true'] at h
  obtain ⟨e, he, hb⟩ := h
  simp only [Bool.and_eq_true, beq_iff_eq] at hb
  have := hall e he hb.1
  rw [hb.2, hy] at this
  cases this
theorem pathC_not {listed : Array Bool} {i : Nat} (hi : listed.getD i false = false) : ∀ (l : List Nat), pathC md ops i l = true → (∀ x ∈ l, listed.getD x false = false) → ∀ j ∈ l, j ∉ Region.ready md ops listed
  | [], _, _, j, hj => by cases hj
  | [x], h, _, j, hj => by
    obtain rfl : j = x := by simpa using hj
    exact waitsC_not h hi
  | x :: y :: r, h, hl, j, hj => by
    have h' : (waitsC md ops x y && pathC md ops i (y :: r)) = true := h
    simp only [Bool.and_eq_true] at h'
    rcases List.mem_cons.1 hj with rfl | hj
    · exact waitsC_not h'.1 (hl y (by simp))
    · exact pathC_not hi (y :: r) h'.2 (fun z hz => hl z (List.mem_cons_of_mem _ hz)) j hj
def wpAnyC (P : Program) (md : Region.Mode) (ops : Array Oper) (Q : Exit → Act → World → Prop) (S : World → Prop) (c : Nat) : Nat → Array Bool → Act → World → Prop
  | 0, listed, a, w => Region.ready md ops listed = [] ∧ Q .normal a w
  | fuel + 1, listed, a, w =>
    (Region.ready md ops listed = [] → Q .normal a w) ∧
    ∀ i ∈ Region.ready md ops listed, wpOp P ops Q i (fun a' w' => ((listed.setIfInBounds i true).getD c false = false → S w') ∧ wpAnyC P md ops Q S c fuel (listed.setIfInBounds i true) a' w') a w
theorem wpAny_of_C : ∀ (fuel : Nat) (listed : Array Bool) (a : Act) (w : World), wpAnyC P md ops Q S c fuel listed a w → wpAny P md ops Q fuel listed a w
  | 0, _, _, _, h => h
  | fuel + 1, _, _, _, h => ⟨h.1, fun i hi => wpOp_mono (fun a' w' h' => wpAny_of_C fuel _ a' w' h'.2) (h.2 i hi)⟩
theorem wpAnyC_first {i : Nat} {oi : Oper} {v : Value} (l : List Nat) (hi : ops[i]? = some oi) (hsel : ∀ (j : Nat) (o : Oper) cs b, ops[j]? = some o → o.op ≠ .select cs b)
    (hQ : ∀ c a w, Q (.panic c) (a.put oi.dst v) w → Q (.panic c) a w) (hp : pathC md ops i l = true) (hc : c ∈ l) (hil : i ∉ l) :
    ∀ (fuel : Nat) (listed : Array Bool) (a : Act) (w : World),
      (∀ j oj, ops[j]? = some oj → j ≠ i → listed.getD j true = false → (∀ e ∈ oj.after, Region.binds md e = true → e.on ≠ i) → oi.apart ops oj = true) →
      (∀ x ∈ l, listed.getD x false = false) →
      i ∈ Region.ready md ops listed → YieldsIf P ops S oi v a → S w →
      wpAnyC P md ops Q S c fuel (listed.setIfInBounds i true) (a.put oi.dst v) w → wpAnyC P md ops Q S c (fuel + 1) listed a w := by
  intro fuel
  induction fuel with
  | zero =>
    intro listed a w _ _ hr hy hS H
    refine ⟨fun h => (by rw [h] at hr; cases hr), fun j hj => ?_⟩
    by_cases hji : j = i
    · subst hji; exact hy.wpOp hi hS ⟨fun _ => hS, H⟩
    · have := ready_mono hj hji
      rw [H.1] at this
      cases this
  | succ fuel ih =>
    intro listed a w hfree hl hr hy hS H
    refine ⟨fun h => (by rw [h] at hr; cases hr), fun j hj => ?_⟩
    by_cases hji : j = i
    · subst hji; exact hy.wpOp hi hS ⟨fun _ => hS, H⟩
    · have h1 := H.2 j (ready_mono hj hji)
      obtain ⟨hjun, oj, hoj, hall⟩ := mem_ready.1 hj
      have hi0 : listed.getD i false = false := by
        have h0 := (mem_ready.1 hr).1
        rcases Nat.lt_or_ge i listed.size with h' | h'
        · simpa [h'] using h0
        · simp [Array.getElem?_eq_none h'] at h0
      have hnot : ∀ e ∈ oj.after, Region.binds md e = true → e.on ≠ i := fun e he hb heq => by
        have h1 := hall e he hb
        rw [heq, hi0] at h1
        cases h1
      have hjl : j ∉ l := fun hjl => pathC_not hi0 l hp hl j hjl hj
      have hjc : j ≠ c := fun e => hjl (e ▸ hc)
      have hic : i ≠ c := fun e => hil (e ▸ hc)
      have hlc : ((listed.setIfInBounds i true).setIfInBounds j true).getD c false = false := by
        rw [getD_set_ne false hjc, getD_set_ne false hic]
        exact hl c hc
      have h2 := wpOp_putIf hoj (hfree j oj hoj hji hjun hnot) (fun cs b => hsel i oi cs b hi) (fun cs b => hsel j oj cs b hoj) hQ hy h1
      have hfree' : ∀ k ok, ops[k]? = some ok → k ≠ i → (listed.setIfInBounds j true).getD k true = false →
          (∀ e ∈ ok.after, Region.binds md e = true → e.on ≠ i) → oi.apart ops ok = true := fun k ok hk hki hun hno => by
        refine hfree k ok hk hki ?_ hno
        by_cases hjk : j = k
        · subst hjk; exact hjun
        · rw [getD_set_ne true hjk] at hun; exact hun
      have hl' : ∀ x ∈ l, (listed.setIfInBounds j true).getD x false = false := fun x hx => by
        rw [getD_set_ne false (show j ≠ x from fun e => hjl (by rw [e]; exact hx))]
        exact hl x hx
      refine wpOp_mono (fun a' w' h3 => ⟨fun _ => h3.2.1 hlc, ih (listed.setIfInBounds j true) a' w' hfree' hl' (ready_mono hr (Ne.symm hji)) h3.1 (h3.2.1 hlc) ?_⟩) h2
      rw [Array.setIfInBounds_comm _ _ hji]
      exact h3.2.2
theorem wpAnyC_take (l : List Nat) {i : Nat} {oi : Oper} {v : Value} {fuel : Nat} {listed : Array Bool} {a : Act} {w : World} (hi : ops[i]? = some oi)
    (hp : (pathC md ops i l && l.contains c && !l.contains i && l.all fun x => !listed.getD x false) = true)
    (hs : Region.noSelect ops = true) (hf : Region.free md ops listed i = true) (hr : (Region.ready md ops listed).contains i = true)
    (hQ : ∀ c a w, Q (.panic c) (a.put oi.dst v) w → Q (.panic c) a w) (hy : YieldsIf P ops S oi v a) (hS : S w)
    (h : wpAnyC P md ops Q S c fuel (listed.setIfInBounds i true) (a.put oi.dst v) w) : wpAnyC P md ops Q S c (fuel + 1) listed a w := by
  simp only [Bool.and_eq_true, List.all_eq_true, Bool.not_eq_true', List.contains_iff_mem] at hp
  exact wpAnyC_first l hi (Region.noSelect_spec hs) hQ hp.1.1.1 hp.1.1.2 (by have := hp.1.2; simpa using this) fuel listed a w (Region.free_spec hi hf) hp.2 (by simpa using hr) hy hS h
theorem wpAnyC_firstAny {i : Nat} {oi : Oper} {v : Value} (hi : ops[i]? = some oi) (hsel : ∀ (j : Nat) (o : Oper) cs b, ops[j]? = some o → o.op ≠ .select cs b)
    (hQ : ∀ c a w, Q (.panic c) (a.put oi.dst v) w → Q (.panic c) a w) (hic : i ≠ c) :
    ∀ (fuel : Nat) (listed : Array Bool) (a : Act) (w : World),
      (∀ j oj, ops[j]? = some oj → j ≠ i → listed.getD j true = false → (∀ e ∈ oj.after, Region.binds md e = true → e.on ≠ i) → oi.apart ops oj = true) →
      i ∈ Region.ready md ops listed → YieldsIf P ops (fun _ => True) oi v a → (listed.getD c false = false → S w) →
      wpAnyC P md ops Q S c fuel (listed.setIfInBounds i true) (a.put oi.dst v) w → wpAnyC P md ops Q S c (fuel + 1) listed a w := by
  intro fuel
  induction fuel with
  | zero =>
    intro listed a w _ hr hy hS H
    refine ⟨fun h => (by rw [h] at hr; cases hr), fun j hj => ?_⟩
    by_cases hji : j = i
    · subst hji; exact hy.wpOp hi trivial ⟨fun h => hS (by rw [getD_set_ne false hic] at h; exact h), H⟩
    · have := ready_mono hj hji
      rw [H.1] at this
      cases this
  | succ fuel ih =>
    intro listed a w hfree hr hy hS H
    refine ⟨fun h => (by rw [h] at hr; cases hr), fun j hj => ?_⟩
    by_cases hji : j = i
    · subst hji; exact hy.wpOp hi trivial ⟨fun h => hS (by rw [getD_set_ne false hic] at h; exact h), H⟩
    · have h1 := H.2 j (ready_mono hj hji)
      obtain ⟨hjun, oj, hoj, hall⟩ := mem_ready.1 hj
      have hi0 : listed.getD i false = false := by
        have h0 := (mem_ready.1 hr).1
        rcases Nat.lt_or_ge i listed.size with h' | h'
        · simpa [h'] using h0
        · simp [Array.getElem?_eq_none h'] at h0
      have hnot : ∀ e ∈ oj.after, Region.binds md e = true → e.on ≠ i := fun e he hb heq => by
        have h1 := hall e he hb
        rw [heq, hi0] at h1
        cases h1
      have h2 := wpOp_putIf hoj (hfree j oj hoj hji hjun hnot) (fun cs b => hsel i oi cs b hi) (fun cs b => hsel j oj cs b hoj) hQ hy h1
      have hfree' : ∀ k ok, ops[k]? = some ok → k ≠ i → (listed.setIfInBounds j true).getD k true = false →
          (∀ e ∈ ok.after, Region.binds md e = true → e.on ≠ i) → oi.apart ops ok = true := fun k ok hk hki hun hno => by
        refine hfree k ok hk hki ?_ hno
        by_cases hjk : j = k
        · subst hjk; exact hjun
        · rw [getD_set_ne true hjk] at hun; exact hun
      have hcm : ((listed.setIfInBounds i true).setIfInBounds j true).getD c false = (listed.setIfInBounds j true).getD c false := by
        rw [Array.setIfInBounds_comm _ _ (Ne.symm hji), getD_set_ne false hic]
      refine wpOp_mono (fun a' w' h3 => ⟨fun h => h3.2.1 (by rw [hcm]; exact h), ih (listed.setIfInBounds j true) a' w' hfree' (ready_mono hr (Ne.symm hji)) h3.1 (fun h => h3.2.1 (by rw [hcm]; exact h)) ?_⟩) h2
      rw [Array.setIfInBounds_comm _ _ hji]
      exact h3.2.2
theorem wpAnyC_any {i : Nat} {oi : Oper} {v : Value} {fuel : Nat} {listed : Array Bool} {a : Act} {w : World} (hi : ops[i]? = some oi) (hic : (!Nat.beq i c) = true)
    (hs : Region.noSelect ops = true) (hf : Region.free md ops listed i = true) (hr : (Region.ready md ops listed).contains i = true)
    (hQ : ∀ c a w, Q (.panic c) (a.put oi.dst v) w → Q (.panic c) a w) (hy : YieldsIf P ops (fun _ => True) oi v a) (hS : listed.getD c false = false → S w)
    (h : wpAnyC P md ops Q S c fuel (listed.setIfInBounds i true) (a.put oi.dst v) w) : wpAnyC P md ops Q S c (fuel + 1) listed a w := by
  refine wpAnyC_firstAny hi (Region.noSelect_spec hs) hQ (fun e => ?_) fuel listed a w (Region.free_spec hi hf) (by simpa using hr) hy hS h
  subst e
  simp at hic
theorem wpAnyC_one {i : Nat} {o : Oper} {fuel : Nat} {listed : Array Bool} {a : Act} {w : World} (hr : Region.ready md ops listed = [i]) (ho : ops[i]? = some o)
    (h : ∀ K' : Act → World → Prop, Shut (∀ a w, S w → (S w → wpAnyC P md ops Q S c fuel (listed.setIfInBounds i true) a w) → K' a w) → if Region.wanted o (yielded ops a.tmps) = true then Oper.wp P o a w K' Q else K' (a.put o.dst undef) w) :
    wpAnyC P md ops Q S c (fuel + 1) listed a w := by
  refine ⟨fun h0 => (by rw [hr] at h0; cases h0), fun j hj => ?_⟩
  rw [hr] at hj
  obtain rfl : j = i := by simpa using hj
  exact wpOp_step ho (fun K' hK => h K' (fun a w hS hW => hK a w ⟨fun _ => hS, hW hS⟩))
theorem wpAnyC_last {o : Oper} {fuel : Nat} {listed : Array Bool} {a : Act} {w : World} (hr : Region.ready md ops listed = [c]) (ho : ops[c]? = some o)
    (h : ∀ K' : Act → World → Prop, Shut (∀ a w, wpAnyC P md ops Q S c fuel (listed.setIfInBounds c true) a w → K' a w) → if Region.wanted o (yielded ops a.tmps) = true then Oper.wp P o a w K' Q else K' (a.put o.dst undef) w) :
    wpAnyC P md ops Q S c (fuel + 1) listed a w := by
  refine ⟨fun h0 => (by rw [hr] at h0; cases h0), fun j hj => ?_⟩
  rw [hr] at hj
  obtain rfl : j = c := by simpa using hj
  have hset : (listed.setIfInBounds j true).getD j false = true := by
    have h0 := (mem_ready.1 (show j ∈ Region.ready md ops listed by rw [hr]; simp)).1
    rcases Nat.lt_or_ge j listed.size with h' | h'
    · simp [h']
    · simp [Array.getElem?_eq_none h'] at h0
  exact wpOp_step ho (fun K' hK => h K' (fun a w hW => hK a w ⟨fun hne => absurd hne (by rw [hset]; decide), hW⟩))
theorem wpAnyC_done {listed : Array Bool} {a : Act} {w : World} (hr : Region.ready md ops listed = []) (h : Q .normal a w) : ∀ fuel, wpAnyC P md ops Q S c fuel listed a w
  | 0 => ⟨hr, h⟩
  | _ + 1 => ⟨fun _ => h, by rw [hr]; simp⟩
theorem wp_region_C (c : Nat) {id : Nat} {a : Act} {w : World} (hm : P.follows .mixedOrders = true) (hS : S w.drew)
    (h : S w.drew → wpAnyC P .any ops Q S c ops.size (Array.replicate ops.size false) a w.drew) : (Code.region id ops true).wp P Q a w :=
  wp_region_any hm (wpAny_of_C _ _ _ _ (h hS))
end
end Go.Proofs.Ytjifpjfinffamaa
end
