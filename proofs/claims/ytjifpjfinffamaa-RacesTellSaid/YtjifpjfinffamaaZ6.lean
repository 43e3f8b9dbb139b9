/- Texts Y7 Q W4 Lib4 Y9 V7, laid together. -/
import Derived.Test.YtjifpjfinffamaaZ1
import Derived.Test.YtjifpjfinffamaaZ2
import Derived.Test.YtjifpjfinffamaaZ3
import Derived.Test.YtjifpjfinffamaaZ4
import Derived.Test.YtjifpjfinffamaaZ5
import Derived.Deep.RegionHeld3
import Derived.Deep.DrawnRows
import Derived.Deep.RegionLaw
import Derived.Deep.QuietTactic
import Derived.BigQuiet
import Derived.Deep.LoopGhost
import Derived.WalkMore
import Derived.Handy
section
namespace Go.Proofs.Ytjifpjfinffamaa
open Go.RowKit
def begB (e : Ev) (i : Nat) : Bl := ⟨e.th, 5, i, i, e.word / 2, false, 0, [], []⟩
def clB (b : Bl) (e : Ev) : Bl :=
  if e.kind = 6 then { b with kind := 1, num := e.word } else if e.kind = 8 then { b with kind := 2 } else if e.kind = 9 then { b with kind := 3, err := e.err } else if e.kind = 7 then { b with kind := 4 } else stB b e
def evB (b : Bl) (i : Nat) (e : Ev) : Bl := clB { b with last := i } e
def finW (b : Bl) : Bl := { b with wr := b.wr && decide (b.kind = 1) }
def blkR (th : Int) : Bl → Nat → List Ev → Nat → Bl × Nat
  | b, look, [], _ => (b, look)
  | b, look, e :: r, i => if e.th ≠ th then blkR th b look r (i + 1) else if OverK e.kind then (evB b i e, look)
    else blkR th (if e.kind = 1 then { b with last := i, num := e.word / 2 } else evB b i e) (if e.kind = 1 ∨ e.kind = 4 then i else look) r (i + 1)
theorem overK_not {k : Int} (h : ¬ OverK k) : k ≠ 6 ∧ k ≠ 8 ∧ k ≠ 9 ∧ k ≠ 7 :=
  ⟨fun e => h (.inl e), fun e => h (.inr (.inl e)), fun e => h (.inr (.inr (.inl e))), fun e => h (.inr (.inr (.inr e)))⟩
theorem blkR_doc (l : List Ev) (th : Int) (at_ : Nat) : ∀ (n p : Nat) (s : BS) (last : Nat), l.length - p = n → last < p → p ≤ l.length →
    ((finW (blkR th ⟨th, 5, at_, last, s.num, s.lk, 0, s.rd, s.wt⟩ s.look (l.drop p) p).1, (blkR th ⟨th, 5, at_, last, s.num, s.lk, 0, s.rd, s.wt⟩ s.look (l.drop p) p).2) : Bl × Nat) =
      (finB th at_ (endF th (l.drop p) p last).1 (endF th (l.drop p) p last).2 (l.getD (endF th (l.drop p) p last).1 ev0) (bfo th s (l.drop p) p ((endF th (l.drop p) p last).1 + 1 - p)), (bfo th s (l.drop p) p ((endF th (l.drop p) p last).1 + 1 - p)).look)
  | 0, p, s, last, hn, hlp, hp => by
    obtain rfl : p = l.length := by omega
    rw [endF_end, bfo_end hlp, List.drop_length]
    simp [blkR, finW, finB]
  | n + 1, p, s, last, hn, hlp, hp => by
    have hlt : p < l.length := by omega
    have he : l[p]? = some l[p] := List.getElem?_eq_getElem hlt
    generalize hee : l[p] = e at he
    have ih := fun s' last' h' => blkR_doc l th at_ n (p + 1) s' last' (by omega) h' (by omega)
    rw [endF_step he]
    have hbl : ∀ b look, blkR th b look (l.drop p) p = if e.th ≠ th then blkR th b look (l.drop (p + 1)) (p + 1) else if OverK e.kind then (evB b p e, look)
        else blkR th (if e.kind = 1 then { b with last := p, num := e.word / 2 } else evB b p e) (if e.kind = 1 ∨ e.kind = 4 then p else look) (l.drop (p + 1)) (p + 1) := by
      intro b look
      rw [List.drop_eq_getElem_cons hlt, hee]
      rfl
    rw [hbl]
    by_cases ht : e.th = th
    · have hn1 : ¬ (e.th ≠ th) := by simpa using ht
      rw [if_neg hn1, if_neg hn1]
      by_cases hk : OverK e.kind
      · rw [if_pos hk, if_pos hk]
        dsimp only
        rw [bfo_step he (Nat.le_refl p), bfo_end (Nat.lt_succ_self p)]
        have hg : l.getD p ev0 = e := by simp [List.getD, he]
        rw [hg]
        rcases hk with k | k | k | k <;> simp [bst, ht, k, finB, finW, evB, clB]
      · rw [if_neg hk, if_neg hk]
        have hz := endF_range th (l.drop (p + 1)) (p + 1) p (Nat.lt_succ_self p)
        rw [bfo_step he hz.1]
        have := ih (bst th s p e) p (Nat.lt_succ_self p)
        rw [← this]
        obtain ⟨q6, q8, q9, q7⟩ := overK_not hk
        have hst : (if e.kind = 1 then ({ (⟨th, 5, at_, last, s.num, s.lk, 0, s.rd, s.wt⟩ : Bl) with last := p, num := e.word / 2 } : Bl) else evB ⟨th, 5, at_, last, s.num, s.lk, 0, s.rd, s.wt⟩ p e) = ⟨th, 5, at_, p, (bst th s p e).num, (bst th s p e).lk, 0, (bst th s p e).rd, (bst th s p e).wt⟩ := by
          unfold bst evB clB stB
          rw [if_neg hn1, if_neg q6, if_neg q8, if_neg q9, if_neg q7]
          by_cases k1 : e.kind = 1
          · simp [k1]
          · by_cases k4 : e.kind = 4
            · simp [k4]
            · by_cases k2 : e.kind = 2
              · simp [k2]
                split <;> rfl
              · by_cases k3 : e.kind = 3
                · simp [k3]
                · by_cases k5 : e.kind = 5
                  · simp [k5]
                  · simp [k1, k2, k3, k4, k5]
        have hlk : (if e.kind = 1 ∨ e.kind = 4 then p else s.look) = (bst th s p e).look := by
          unfold bst
          rw [if_neg hn1]
          by_cases k1 : e.kind = 1 ∨ e.kind = 4
          · simp [k1]
          · rw [if_neg k1, if_neg k1]
            split
            · split <;> rfl
            · split
              · rfl
              · split <;> rfl
        rw [hst, hlk]
    · rw [if_pos ht, if_pos ht, ih s last (by omega)]
      have hbs : bst th s p e = s := by
        unfold bst
        rw [if_pos ht]
      by_cases hz : p ≤ (endF th (l.drop (p + 1)) (p + 1) last).1
      · rw [bfo_step he hz, hbs]
      · rw [bfo_end (by omega), bfo_end (by omega)]
theorem docB_blkR {l : List Ev} {at_ : Nat} {e : Ev} (he : l[at_]? = some e) (hk : e.kind = 1) :
    docB l at_ = (finW (blkR e.th (begB e at_) at_ (l.drop (at_ + 1)) (at_ + 1)).1, (blkR e.th (begB e at_) at_ (l.drop (at_ + 1)) (at_ + 1)).2) := by
  have hlt := (List.getElem?_eq_some_iff.1 he).1
  have hg : l.getD at_ ev0 = e := by simp [List.getD, he]
  have hz := endF_range e.th (l.drop (at_ + 1)) (at_ + 1) at_ (Nat.lt_succ_self _)
  have h := blkR_doc l e.th at_ _ (at_ + 1) ⟨e.word / 2, [], [], at_, false⟩ at_ rfl (Nat.lt_succ_self _) hlt
  have hb : bst e.th (bs0 at_) at_ e = ⟨e.word / 2, [], [], at_, false⟩ := by simp [bst, hk, bs0]
  unfold docB begB
  rw [hg, bfo_step he hz.1, hb]
  exact h.symm
structure CS where
  bl : List Bl
  lk : List Nat
  op : Int → Option Nat
def cutS (s : CS) (i : Nat) (e : Ev) : CS :=
  if e.kind = 1 then ⟨s.bl ++ [begB e i], s.lk ++ [i], fun t => if t = e.th then some s.bl.length else s.op t⟩
  else match s.op e.th with
    | none => s
    | some k => ⟨s.bl.set k (evB (blAt s.bl k) i e), if e.kind = 4 then s.lk.set k i else s.lk, if OverK e.kind then fun t => if t = e.th then none else s.op t else s.op⟩
def cutF : CS → List Ev → Nat → CS
  | s, [], _ => s
  | s, e :: r, i => cutF (cutS s i e) r (i + 1)
def cs0 : CS := ⟨[], [], fun _ => none⟩
theorem cutF_step {l : List Ev} {p : Nat} {e : Ev} (he : l[p]? = some e) (s : CS) : cutF s (l.drop p) p = cutF (cutS s p e) (l.drop (p + 1)) (p + 1) := by
  obtain ⟨hp', rfl⟩ := List.getElem?_eq_some_iff.1 he
  rw [List.drop_eq_getElem_cons hp']
  rfl
theorem cutF_end {l : List Ev} (s : CS) : cutF s (l.drop l.length) l.length = s := by
  rw [List.drop_length]
  rfl
def docR : List Ev → Nat → List (Bl × Nat)
  | [], _ => []
  | e :: r, i => if e.kind = 1 then blkR e.th (begB e i) i r (i + 1) :: docR r (i + 1) else docR r (i + 1)
def docX (l : List Ev) : List Ev → Nat → List (Bl × Nat)
  | [], _ => []
  | e :: r, i => if e.kind = 1 then docB l i :: docX l r (i + 1) else docX l r (i + 1)
theorem docX_step {l : List Ev} {p : Nat} {e : Ev} (he : l[p]? = some e) : docX l (l.drop p) p = if e.kind = 1 then docB l p :: docX l (l.drop (p + 1)) (p + 1) else docX l (l.drop (p + 1)) (p + 1) := by
  obtain ⟨hp', rfl⟩ := List.getElem?_eq_some_iff.1 he
  rw [List.drop_eq_getElem_cons hp']
  rfl
theorem docX_end {l : List Ev} : docX l (l.drop l.length) l.length = [] := by
  rw [List.drop_length]
  rfl
theorem docR_cons (e : Ev) (r : List Ev) (i : Nat) : docR (e :: r) i = if e.kind = 1 then blkR e.th (begB e i) i r (i + 1) :: docR r (i + 1) else docR r (i + 1) := rfl
theorem docX_docR (l : List Ev) : ∀ (n p : Nat), l.length - p = n → p ≤ l.length → docX l (l.drop p) p = (docR (l.drop p) p).map fun x => (finW x.1, x.2)
  | 0, p, hn, hp => by
    obtain rfl : p = l.length := by omega
    rw [docX_end, List.drop_length]
    rfl
  | n + 1, p, hn, hp => by
    have hlt : p < l.length := by omega
    have ih := docX_docR l n (p + 1) (by omega) (by omega)
    rw [docX_step (List.getElem?_eq_getElem hlt), List.drop_eq_getElem_cons hlt, ih, docR_cons]
    by_cases hk : l[p].kind = 1
    · rw [if_pos hk, if_pos hk, List.map_cons, docB_blkR (List.getElem?_eq_getElem hlt) hk]
    · rw [if_neg hk, if_neg hk]
structure CRel (c : CS) (s : SS) : Prop where
  len : c.lk.length = c.bl.length
  how : ∀ t : Int, 0 ≤ t → t < 8 → ((∃ k, c.op t = some k) ↔ (s.t t.toNat).how = 1 ∨ (s.t t.toNat).how = 2)
  own : ∀ t k, c.op t = some k → k < c.bl.length ∧ (blAt c.bl k).th = t
def runC (c : CS) (r : List Ev) (i j : Nat) : Bl × Nat :=
  if c.op (blAt c.bl j).th = some j then blkR (blAt c.bl j).th (blAt c.bl j) (c.lk.getD j 0) r i else (blAt c.bl j, c.lk.getD j 0)
theorem evB_th (b : Bl) (i : Nat) (e : Ev) : (evB b i e).th = b.th := by
  unfold evB clB stB
  repeat' split
  all_goals rfl
theorem nextI_how {how kind err : Int} (h : 0 ≤ nextI how kind err) : (how = 0 ∧ (kind = 1 ∨ nextI how kind err = 0 ∨ nextI how kind err = 3) ∧ ¬ (kind ≠ 1 ∧ (nextI how kind err = 1 ∨ nextI how kind err = 2))) ∨
    ((how = 1 ∨ how = 2) ∧ kind ≠ 1) := by
  unfold nextI at h ⊢
  by_cases h0 : how = 0
  · subst h0
    left
    refine ⟨rfl, ?_, ?_⟩ <;> simp only [if_true] at h ⊢ <;> (repeat' split) <;> simp_all
  · right
    rw [if_neg h0] at h
    by_cases h1 : how = 1
    · refine ⟨.inl h1, fun k => ?_⟩
      subst k
      simp [h1] at h
    · by_cases h2 : how = 2
      · refine ⟨.inr h2, fun k => ?_⟩
        subst k
        simp [h2] at h
      · simp [h1, h2] at h
theorem nextI_open {how kind err : Int} (hh : how = 1 ∨ how = 2) (h : 0 ≤ nextI how kind err) : (nextI how kind err = 1 ∨ nextI how kind err = 2) ↔ ¬ OverK kind := by
  unfold OverK
  unfold nextI at h ⊢
  rcases hh with rfl | rfl
  · simp only [Int.one_ne_zero, if_false, if_true] at h ⊢
    (repeat' split) <;> simp_all <;> omega
  · simp at h ⊢
    (repeat' split) <;> simp_all
theorem putE_ok {s : SS} {e : Ev} (h : putE s e = 0) : Fm e ∧ 0 ≤ nextI (s.t e.th.toNat).how e.kind e.err := by
  unfold putE at h
  by_cases h1 : Fm e
  · rw [if_neg (by simpa using h1)] at h
    by_cases h2 : nextI (s.t e.th.toNat).how e.kind e.err < 0
    · rw [if_pos h2] at h
      simp at h
    · exact ⟨h1, by omega⟩
  · rw [if_pos h1] at h
    simp at h
theorem CRel.start : CRel cs0 ss0 := ⟨rfl, fun t _ _ => by simp [cs0, ss0], fun t k h => by cases h⟩
theorem CRel.none_ {c : CS} {s : SS} (h : CRel c s) {e : Ev} (hp : putE s e = 0) (hk : e.kind = 1) : c.op e.th = none := by
  obtain ⟨hf, hn⟩ := putE_ok hp
  have := h.how e.th hf.1.1 hf.1.2
  cases ho : c.op e.th with
  | none => rfl
  | some k =>
    rw [ho] at this
    have h1 := this.1 ⟨k, rfl⟩
    rcases nextI_how hn with h2 | h2
    · omega
    · exact absurd hk h2.2
theorem CRel.step {c : CS} {s : SS} (h : CRel c s) (i : Nat) {e : Ev} (hp : putE s e = 0) : CRel (cutS c i e) (adv s e) := by
  obtain ⟨hf, hn⟩ := putE_ok hp
  have hth : ∀ t : Int, 0 ≤ t → t < 8 → t ≠ e.th → ((adv s e).t t.toNat).how = (s.t t.toNat).how := by
    intro t h0 h1 h2
    have : t.toNat ≠ e.th.toNat := by have := hf.1.1; omega
    simp [adv, this]
  have hee : ((adv s e).t e.th.toNat).how = nextI (s.t e.th.toNat).how e.kind e.err := by simp [adv, advT]
  have hhe := h.how e.th hf.1.1 hf.1.2
  by_cases hk : e.kind = 1
  · have ho := h.none_ hp hk
    unfold cutS
    rw [if_pos hk]
    refine ⟨by simp [h.len], fun t h0 h1 => ?_, fun t k => ?_⟩
    · by_cases ht : t = e.th
      · subst ht
        rw [hee]
        have h3 : (s.t e.th.toNat).how = 0 := by
          rcases nextI_how hn with h2 | h2
          · exact h2.1
          · exact absurd hk h2.2
        simp [h3, hk, nextI]
      · rw [hth t h0 h1 ht]
        simp only [if_neg ht]
        exact h.how t h0 h1
    · dsimp only
      by_cases ht : t = e.th
      · rw [if_pos ht]
        intro hh
        injection hh with hh
        subst hh
        refine ⟨by simp, ?_⟩
        simp [blAt, List.getD, begB, ht]
      · rw [if_neg ht]
        intro hh
        obtain ⟨h1, h2⟩ := h.own t k hh
        refine ⟨by simp; omega, ?_⟩
        rw [← h2]
        simp [blAt, List.getD, List.getElem?_append_left h1]
  · unfold cutS
    rw [if_neg hk]
    cases ho : c.op e.th with
    | none =>
      dsimp only
      refine ⟨h.len, fun t h0 h1 => ?_, h.own⟩
      by_cases ht : t = e.th
      · subst ht
        rw [hee]
        have h2 : ¬ ((s.t e.th.toNat).how = 1 ∨ (s.t e.th.toNat).how = 2) := fun q => by
          obtain ⟨k, hk⟩ := hhe.2 q
          rw [ho] at hk
          cases hk
        rcases nextI_how hn with h3 | h3
        · constructor
          · rintro ⟨k, hk⟩
            rw [ho] at hk
            cases hk
          · exact fun q => absurd ⟨hk, q⟩ h3.2.2
        · exact absurd h3.1 h2
      · rw [hth t h0 h1 ht]
        exact h.how t h0 h1
    | some k =>
      dsimp only
      obtain ⟨hkl, hkt⟩ := h.own e.th k ho
      have hopen := hhe.1 ⟨k, ho⟩
      have hnx := nextI_open hopen hn
      refine ⟨?_, fun t h0 h1 => ?_, fun t k' => ?_⟩
      · split <;> simp [h.len]
      · by_cases ht : t = e.th
        · subst ht
          rw [hee, hnx]
          by_cases hov : OverK e.kind
          · simp [hov]
          · simp [hov, ho]
        · rw [hth t h0 h1 ht, ← h.how t h0 h1]
          by_cases hov : OverK e.kind
          · simp [hov, ht]
          · simp [hov]
      · intro hh
        have hh1 : (if OverK e.kind then fun t => if t = e.th then none else c.op t else c.op) t = some k' := hh
        have hh2 : c.op t = some k' := by
          by_cases hov : OverK e.kind
          · rw [if_pos hov] at hh1
            by_cases ht : t = e.th
            · rw [if_pos ht] at hh1
              cases hh1
            · rwa [if_neg ht] at hh1
          · rwa [if_neg hov] at hh1
        obtain ⟨h1, h2⟩ := h.own t k' hh2
        refine ⟨by simpa using h1, ?_⟩
        rw [blAt_set hkl]
        split
        · rename_i e1
          subst e1
          rw [evB_th]
          exact h2
        · exact h2
theorem blkR_step (th : Int) (b : Bl) (look : Nat) (e : Ev) (r : List Ev) (i : Nat) (h : e.th = th) (h1 : e.kind ≠ 1) (ho : ¬ OverK e.kind) : blkR th b look (e :: r) i = blkR th (evB b i e) (if e.kind = 4 then i else look) r (i + 1) := by
  show (if e.th ≠ th then _ else _) = _
  rw [if_neg (by simpa using h), if_neg ho, if_neg h1]
  simp [h1]
theorem runC_pos {c : CS} {r : List Ev} {i j : Nat} (h : c.op (blAt c.bl j).th = some j) : runC c r i j = blkR (blAt c.bl j).th (blAt c.bl j) (c.lk.getD j 0) r i := if_pos h
theorem runC_neg {c : CS} {r : List Ev} {i j : Nat} (h : c.op (blAt c.bl j).th ≠ some j) : runC c r i j = (blAt c.bl j, c.lk.getD j 0) := if_neg h
theorem runC_step {c : CS} {s : SS} (h : CRel c s) {e : Ev} (r : List Ev) (i : Nat) (hp : putE s e = 0) {j : Nat} (hj : j < c.bl.length) : runC (cutS c i e) r (i + 1) j = runC c (e :: r) i j := by
  have hno : (blAt c.bl j).th ≠ e.th → ∀ look, blkR (blAt c.bl j).th (blAt c.bl j) look (e :: r) i = blkR (blAt c.bl j).th (blAt c.bl j) look r (i + 1) := by
    intro q look
    show (if e.th ≠ _ then _ else _) = _
    rw [if_pos (fun q' => q q'.symm)]
  have hlk := h.len
  -- where the block and its look are kept
  have same : blAt (cutS c i e).bl j = blAt c.bl j → (cutS c i e).lk.getD j 0 = c.lk.getD j 0 → ((cutS c i e).op (blAt c.bl j).th = some j ↔ c.op (blAt c.bl j).th = some j) → (c.op (blAt c.bl j).th = some j → (blAt c.bl j).th ≠ e.th) → runC (cutS c i e) r (i + 1) j = runC c (e :: r) i j := by
    intro hb hl ho hne
    by_cases hc : c.op (blAt c.bl j).th = some j
    · rw [runC_pos hc, runC_pos (by rw [hb]; exact ho.2 hc), hb, hl, hno (hne hc)]
    · rw [runC_neg hc, runC_neg (by rw [hb]; exact fun q => hc (ho.1 q)), hb, hl]
  by_cases hk : e.kind = 1
  · have ho := h.none_ hp hk
    have hc' : cutS c i e = ⟨c.bl ++ [begB e i], c.lk ++ [i], fun t => if t = e.th then some c.bl.length else c.op t⟩ := by unfold cutS; rw [if_pos hk]
    apply same
    · rw [hc']
      simp [blAt, List.getD, List.getElem?_append_left hj]
    · rw [hc']
      simp [List.getD, List.getElem?_append_left (show j < c.lk.length by omega)]
    · rw [hc']
      dsimp only
      by_cases ht : (blAt c.bl j).th = e.th
      · rw [if_pos ht, ht, ho]
        simp
        omega
      · rw [if_neg ht]
    · intro q q'
      rw [q', ho] at q
      cases q
  · cases ho : c.op e.th with
    | none =>
      have hc' : cutS c i e = c := by unfold cutS; rw [if_neg hk, ho]
      apply same
      · rw [hc']
      · rw [hc']
      · rw [hc']
      · intro q q'
        rw [q', ho] at q
        cases q
    | some k =>
      obtain ⟨hkl, hkt⟩ := h.own e.th k ho
      have hc' : cutS c i e = ⟨c.bl.set k (evB (blAt c.bl k) i e), if e.kind = 4 then c.lk.set k i else c.lk, if OverK e.kind then fun t => if t = e.th then none else c.op t else c.op⟩ := by unfold cutS; rw [if_neg hk, ho]
      by_cases hjk : j = k
      · subst hjk
        have hb : blAt (cutS c i e).bl j = evB (blAt c.bl j) i e := by
          rw [hc']
          dsimp only
          rw [blAt_set hkl, if_pos rfl]
        have hth : (blAt (cutS c i e).bl j).th = e.th := by rw [hb, evB_th, hkt]
        have hpos : c.op (blAt c.bl j).th = some j := by rw [hkt]; exact ho
        rw [runC_pos hpos]
        by_cases hov : OverK e.kind
        · have h4 : ¬ e.kind = 4 := fun q => by rw [q] at hov; revert hov; decide
          have hop : (cutS c i e).op e.th = none := by
            rw [hc']
            dsimp only
            rw [if_pos hov, if_pos rfl]
          have hl : (cutS c i e).lk.getD j 0 = c.lk.getD j 0 := by
            rw [hc']
            dsimp only
            rw [if_neg h4]
          rw [runC_neg (by rw [hth, hop]; simp), hb, hl]
          show _ = (if e.th ≠ _ then _ else _)
          rw [if_neg (by simp [hkt]), if_pos hov]
        · have hop : (cutS c i e).op e.th = some j := by
            rw [hc']
            dsimp only
            rw [if_neg hov]
            exact ho
          rw [runC_pos (by rw [hth]; exact hop), hth, hb, hkt, blkR_step _ _ _ _ _ _ rfl hk hov, hc']
          dsimp only
          by_cases h4 : e.kind = 4
          · rw [if_pos h4, if_pos h4]
            congr 1
            simp [List.getD, show j < c.lk.length by omega]
          · rw [if_neg h4, if_neg h4]
      · apply same
        · rw [hc']
          dsimp only
          rw [blAt_set hkl, if_neg hjk]
        · rw [hc']
          dsimp only
          split
          · simp only [List.getD]
            rw [List.getElem?_set_ne (fun e' => hjk e'.symm)]
          · rfl
        · rw [hc']
          dsimp only
          by_cases hov : OverK e.kind
          · rw [if_pos hov]
            by_cases ht : (blAt c.bl j).th = e.th
            · rw [if_pos ht, ht, ho]
              simp
              exact fun q => hjk q.symm
            · rw [if_neg ht]
          · rw [if_neg hov]
        · intro q q'
          rw [q', ho] at q
          injection q with q
          exact hjk q.symm
theorem range_blAt (L : List Bl) : (List.range L.length).map (blAt L) = L := by
  apply List.ext_getElem?
  intro i
  by_cases hi : i < L.length
  · simp [hi, blAt, List.getD]
  · rw [List.getElem?_eq_none (by simp; omega), List.getElem?_eq_none (by omega)]
theorem range_getD (L : List Nat) : (List.range L.length).map (fun i => L.getD i 0) = L := by
  apply List.ext_getElem?
  intro i
  by_cases hi : i < L.length
  · simp [hi, List.getD]
  · rw [List.getElem?_eq_none (by simp; omega), List.getElem?_eq_none (by omega)]
theorem cutF_docR : ∀ (r : List Ev) (i : Nat) (c : CS) (s : SS), CRel c s → chk s r i = (-1, 0) →
    (cutF c r i).bl = (List.range c.bl.length).map (fun j => (runC c r i j).1) ++ (docR r i).map (·.1) ∧ (cutF c r i).lk = (List.range c.bl.length).map (fun j => (runC c r i j).2) ++ (docR r i).map (·.2)
  | [], i, c, s, h, _ => by
    have hr : ∀ j, runC c [] i j = (blAt c.bl j, c.lk.getD j 0) := fun j => by unfold runC; split <;> rfl
    simp only [hr, cutF, docR, List.map_nil, List.append_nil]
    refine ⟨(range_blAt c.bl).symm, ?_⟩
    rw [← h.len]
    exact (range_getD c.lk).symm
  | e :: r, i, c, s, h, hc => by
    have hp : putE s e = 0 := by
      unfold chk at hc
      split at hc
      · assumption
      · injection hc with h1 h2
    have hc' : chk (adv s e) r (i + 1) = (-1, 0) := by
      unfold chk at hc
      rwa [if_pos hp] at hc
    have h' := h.step i hp
    obtain ⟨ih1, ih2⟩ := cutF_docR r (i + 1) (cutS c i e) (adv s e) h' hc'
    show (cutF (cutS c i e) r (i + 1)).bl = _ ∧ (cutF (cutS c i e) r (i + 1)).lk = _
    rw [ih1, ih2]
    by_cases hk : e.kind = 1
    · have hlen : (cutS c i e).bl.length = c.bl.length + 1 := by
        unfold cutS
        rw [if_pos hk]
        simp
      have hlast : runC (cutS c i e) r (i + 1) c.bl.length = blkR e.th (begB e i) i r (i + 1) := by
        have hb : blAt (cutS c i e).bl c.bl.length = begB e i := by
          unfold cutS
          rw [if_pos hk]
          simp [blAt, List.getD]
        have hl : (cutS c i e).lk.getD c.bl.length 0 = i := by
          unfold cutS
          rw [if_pos hk]
          simp [List.getD, ← h.len]
        have ho : (cutS c i e).op e.th = some c.bl.length := by
          unfold cutS
          rw [if_pos hk]
          simp
        rw [runC_pos (by rw [hb]; exact ho), hb, hl]
        rfl
      have hd : docR (e :: r) i = blkR e.th (begB e i) i r (i + 1) :: docR r (i + 1) := by
        show (if _ then _ else _) = _
        rw [if_pos hk]
      rw [hlen, hd, List.range_succ]
      simp only [List.map_append, List.map_cons, List.map_nil, List.append_assoc, List.singleton_append, hlast]
      constructor
      · congr 1
        exact List.map_congr_left fun j hj => by rw [runC_step h r i hp (List.mem_range.1 hj)]
      · congr 1
        exact List.map_congr_left fun j hj => by rw [runC_step h r i hp (List.mem_range.1 hj)]
    · have hlen : (cutS c i e).bl.length = c.bl.length := by
        unfold cutS
        rw [if_neg hk]
        split <;> simp
      have hd : docR (e :: r) i = docR r (i + 1) := by
        show (if _ then _ else _) = _
        rw [if_neg hk]
      rw [hlen, hd]
      constructor
      · congr 1
        exact List.map_congr_left fun j hj => by rw [runC_step h r i hp (List.mem_range.1 hj)]
      · congr 1
        exact List.map_congr_left fun j hj => by rw [runC_step h r i hp (List.mem_range.1 hj)]
theorem cut_doc (l : List Ev) (hc : chk ss0 l 0 = (-1, 0)) : docX l l 0 = ((cutF cs0 l 0).bl.map finW).zip (cutF cs0 l 0).lk := by
  obtain ⟨h1, h2⟩ := cutF_docR l 0 cs0 ss0 CRel.start hc
  have h3 := docX_docR l _ 0 rfl (Nat.zero_le _)
  rw [List.drop_zero] at h3
  rw [h3, h1, h2]
  simp only [cs0, List.length_nil, List.range_zero, List.map_nil, List.nil_append, List.map_map]
  generalize docR l 0 = d
  induction d with
  | nil => rfl
  | cons a d ih => simp [ih]
theorem cutF_nodup : ∀ (r : List Ev) (i : Nat) (c : CS), c.lk.Nodup → (∀ x ∈ c.lk, x < i) → (cutF c r i).lk.Nodup
  | [], i, c, h, _ => h
  | e :: r, i, c, h, hlt => by
    have key : (cutS c i e).lk.Nodup ∧ ∀ x ∈ (cutS c i e).lk, x < i + 1 := by
      unfold cutS
      by_cases hk : e.kind = 1
      · rw [if_pos hk]
        dsimp only
        refine ⟨?_, fun x hx => ?_⟩
        · rw [List.nodup_append]
          refine ⟨h, by simp, fun a ha b hb => ?_⟩
          have := hlt a ha
          simp at hb
          omega
        · rcases List.mem_append.1 hx with hx | hx
          · have := hlt x hx
            omega
          · simp at hx
            omega
      · rw [if_neg hk]
        split
        · exact ⟨h, fun x hx => by have := hlt x hx; omega⟩
        · dsimp only
          split
          · rename_i k _ _
            refine ⟨?_, fun x hx => ?_⟩
            · rw [List.nodup_iff_pairwise_ne, List.pairwise_iff_getElem] at h ⊢
              intro a b ha hb hab
              simp only [List.length_set] at ha hb
              simp only [List.getElem_set]
              have h1 := hlt _ (List.getElem_mem ha)
              have h2 := hlt _ (List.getElem_mem hb)
              split
              · split
                · omega
                · omega
              · split
                · omega
                · exact h a b ha hb hab
            · rcases List.mem_or_eq_of_mem_set hx with hx | hx
              · have := hlt x hx
                omega
              · omega
          · exact ⟨h, fun x hx => by have := hlt x hx; omega⟩
    exact cutF_nodup r (i + 1) (cutS c i e) key.1 key.2
end Go.Proofs.Ytjifpjfinffamaa
end
section
namespace Go.Proofs.Ytjifpjfinffamaa
open Go.RowKit
structure OwnQ (w : World) (base : Nat) (A : Option Addr) (n c : Nat) (q : List Int) : Prop where
  len : n = q.length
  le : n ≤ c
  at_ : ∃ g o cur, A = some ⟨g, o, none⟩ ∧ base ≤ g ∧ w.heap[g]? = some (.cells cur 3 (0, 0)) ∧ o + c ≤ cur.size ∧ ∀ i (h : i < q.length), w.cell? ⟨g, o + i, none⟩ = some (.int .i64 q[i])
theorem cellq {w : World} {g : Nat} {cur : Array Value} {t : Nat} {fr : Nat × Nat} (h : w.heap[g]? = some (.cells cur t fr)) (j : Nat) : w.cell? ⟨g, j, none⟩ = cur[j]? := cell_of_row w g j cur t fr h
theorem OwnQ.one {w : World} {base : Nat} {x : Int} (h : base ≤ w.heap.size) : OwnQ (w.alloc (.cells #[.int .i64 x] 3)) base (some ⟨w.heap.size, 0, none⟩) 1 1 [x] := by
  refine ⟨rfl, Nat.le_refl _, w.heap.size, 0, _, rfl, h, heap_alloc_new w _, by simp, fun i hi => ?_⟩
  rw [cellq (heap_alloc_new w _)]
  simp at hi
  subst hi
  rfl
theorem OwnQ.keep {w w' : World} {base : Nat} {A : Option Addr} {n c : Nat} {q : List Int} (h : OwnQ w base A n c q) (hk : ∀ g o, A = some ⟨g, o, none⟩ → w'.heap[g]? = w.heap[g]?) : OwnQ w' base A n c q := by
  obtain ⟨g, o, cur, hA, hb, hh, hs, hc⟩ := h.at_
  have hblk := hk g o hA
  exact ⟨h.len, h.le, g, o, cur, hA, hb, hblk.trans hh, hs, fun i hi => (World.cell?_of_block (a := ⟨g, o + i, none⟩) hblk).trans (hc i hi)⟩
end Go.Proofs.Ytjifpjfinffamaa
end
section
namespace Go.Proofs.Ytjifpjfinffamaa
open Go.RowKit
def eg (l : List E) (i : Nat) : E := l.getD i ⟨0, 0, 0⟩
def outRow (l : List E) (a k : Nat) : List Int := ((List.range k).filter fun i => decide ((eg l i).f = (a : Int))).map Int.ofNat
def outRows (l : List E) (n : Nat) : List (List Int) := (List.range n).map fun a => outRow l a l.length
theorem outRow_hit {l : List E} {a k : Nat} (h : (eg l k).f = (a : Int)) : outRow l a (k + 1) = outRow l a k ++ [(k : Int)] := by
  simp [outRow, List.range_succ, h]
theorem outRow_miss {l : List E} {a k : Nat} (h : (eg l k).f ≠ (a : Int)) : outRow l a (k + 1) = outRow l a k := by
  simp [outRow, List.range_succ, h]
structure OutInv (l : List E) (N base g0 : Nat) (w wr : World) (k : Nat) (hd : Nat → Value) : Prop where
  hdr : wr.ownsRow base 31 1 (.slice (some ⟨g0, 0, none⟩) N N) N ((List.range N).map hd)
  row : ∀ a, a < N → wr.ownsRow base 3 1 (hd a) (outRow l a k).length (ints (outRow l a k))
  apart : ∀ a b, a < N → b < N → a ≠ b → (hd a).ownBlock = none ∨ (hd a).ownBlock ≠ (hd b).ownBlock
  below : Below base w wr
theorem OutInv.step {l : List E} {N base g0 : Nat} {w wr w2 : World} {k a : Nat} {hd : Nat → Value} (h : OutInv l N base g0 w wr k hd) (ha : a < N) (hf : (eg l k).f = (a : Int)) {v : Value}
    (hg : wr.grownBy w2 (hd a).ownBlock) (ho : w2.ownsRow base 3 1 v ((outRow l a k).length + 1) (ints (outRow l a k) ++ [.int .i64 (k : Int)])) (hv : v.ownBlock = (hd a).ownBlock ∨ ∃ g, v.ownBlock = some g ∧ wr.heap.size ≤ g) (hb : base ≤ wr.heap.size) :
    OutInv l N base g0 w (w2.setCell ⟨g0, a, none⟩ v) (k + 1) (fun b => if b = a then v else hd b) := by
  have hne0 : (hd a).ownBlock ≠ some g0 := by
    rcases h.hdr.2 with ⟨hc, _⟩ | ⟨g', cap, cur, hv', _, hh, _⟩
    · cases hc
    · injection hv' with hv'
      injection hv' with hv'
      injection hv' with hv'
      subst hv'
      exact own_ne_blk (h.row a ha) hh (by decide)
  have hg0 := h.hdr.lt g0 rfl
  have hh2 : w2.ownsRow base 31 1 (.slice (some ⟨g0, 0, none⟩) N N) N ((List.range N).map hd) := h.hdr.kept hg (.inr (fun hc => hne0 hc.symm))
  have hst := hh2.stored a v
  have hvg : v.ownBlock ≠ some g0 := by
    rcases hv with h1 | ⟨g, h1, h2⟩
    · rw [h1]; exact hne0
    · rw [h1]; intro hc; injection hc with hc; omega
  refine ⟨?_, ?_, ?_, (h.below.grown hg hb (fun g hgv => ((h.row a ha).lt g hgv).1)).setCell (by exact hg0.1) _⟩
  · have e : (List.range N).map (fun b => if b = a then v else hd b) = ((List.range N).map hd).set a v := by
      apply List.ext_getElem?
      intro i
      rw [List.getElem?_map, List.getElem?_set, List.getElem?_map, List.length_map, List.length_range]
      by_cases hi : i < N
      · by_cases hia : a = i
        · subst hia; simp [hi]
        · simp [hi, hia, Ne.symm hia]
      · by_cases hia : a = i
        · subst hia; omega
        · simp [hi, hia]
    rw [e]
    exact hst.1
  · intro b hb'
    by_cases hba : b = a
    · subst hba
      rw [if_pos rfl, outRow_hit hf]
      have : ints (outRow l b k ++ [(k : Int)]) = ints (outRow l b k) ++ [.int .i64 (k : Int)] := by simp [ints]
      rw [this, List.length_append]
      exact ho.kept hst.2 (.inr hvg)
    · rw [if_neg hba, outRow_miss (by rw [hf]; omega)]
      refine ((h.row b hb').kept hg ?_).kept hst.2 ?_
      · exact h.apart b a hb' ha hba
      · right
        rcases h.hdr.2 with ⟨hc, _⟩ | ⟨g', cap, cur, hv', _, hh, _⟩
        · cases hc
        · injection hv' with hv'
          injection hv' with hv'
          injection hv' with hv'
          subst hv'
          exact own_ne_blk (h.row b hb') hh (by decide)
  · intro b c hb' hc' hbc
    have hfar : ∀ d, d < N → ∀ g, v.ownBlock = some g → wr.heap.size ≤ g → (hd d).ownBlock ≠ v.ownBlock := by
      intro d hd' g hvg hge hc
      rw [hvg] at hc
      have := ((h.row d hd').lt g hc).2
      omega
    by_cases hba : b = a
    · subst hba
      rw [if_pos rfl, if_neg (Ne.symm hbc)]
      rcases hv with h1 | ⟨g, h1, h2⟩
      · rw [h1]; exact h.apart b c hb' hc' hbc
      · exact .inr (Ne.symm (hfar c hc' g h1 h2))
    · rw [if_neg hba]
      by_cases hca : c = a
      · subst hca
        rw [if_pos rfl]
        rcases hv with h1 | ⟨g, h1, h2⟩
        · rw [h1]; exact h.apart b c hb' hc' hbc
        · exact .inr (hfar b hb' g h1 h2)
      · rw [if_neg hca]
        exact h.apart b c hb' hc' hbc
theorem OutInv.reads {l : List E} {N base g0 : Nat} {w wr : World} {hd : Nat → Value} (h : OutInv l N base g0 w wr l.length hd) : RR wr wr.heap.size (some ⟨g0, 0, none⟩) (outRows l N) := by
  intro hn
  refine ⟨g0, 0, rfl, (h.hdr.lt g0 rfl).2, fun i hi => ?_⟩
  have hiN : i < N := by simpa [outRows] using hi
  have ho := h.row i hiN
  obtain ⟨A, c, hv⟩ := own_shape ho
  have hrow : (outRows l N)[i] = outRow l i l.length := by simp [outRows]
  refine ⟨A, c, ?_, ?_⟩
  · rw [Nat.zero_add, h.hdr.cellAt i (by omega), hrow]
    simp [hiN, hv]
  · rw [hrow]
    rw [hv] at ho
    exact RK.of_own ho
end Go.Proofs.Ytjifpjfinffamaa
end
section
namespace Go.Proofs.Ytjifpjfinffamaa
open Go.RowKit
def OwnI (w : World) (base : Nat) (A : Option Addr) (c : Nat) (xs : List Int) : Prop := w.ownsRow base 3 1 (.slice A xs.length c) xs.length (ints xs)
theorem OwnI.nil (w : World) (base : Nat) : OwnI w base none 0 [] := World.ownsRow_nil w base 3 1
theorem OwnI.reads {w : World} {base : Nat} {A : Option Addr} {c : Nat} {xs : List Int} (h : OwnI w base A c xs) : RK .i64 w w.heap.size A xs := RK.of_own h
theorem OwnI.base {w : World} {base base' : Nat} {A : Option Addr} {c : Nat} {xs : List Int} (h : OwnI w base A c xs) (hb : base' ≤ base) : OwnI w base' A c xs := own_base h hb
theorem OwnI.below {w w' : World} {base B : Nat} {A : Option Addr} {c : Nat} {xs : List Int} (h : OwnI w base A c xs) (hw : w.heap.size ≤ B) (hb : Below B w w') : OwnI w' base A c xs := by
  refine ⟨h.1, ?_⟩
  rcases h.2 with h2 | ⟨g, cap, cur, hv, hbg, hh, h3⟩
  · exact .inl h2
  · exact .inr ⟨g, cap, cur, hv, hbg, (hb.block g (Nat.lt_of_lt_of_le (Array.getElem?_eq_some_iff.1 hh).1 hw)).trans hh, h3⟩
end Go.Proofs.Ytjifpjfinffamaa
end
section
namespace Go.Proofs.Ytjifpjfinffamaa
open Go.RowKit
theorem own_far {w : World} {b1 b2 e1 e2 s1 s2 n m : Nat} {u v : Value} {xs ys : List Value} (h : w.ownsRow b1 e1 s1 u n xs) (h' : w.ownsRow b2 e2 s2 v m ys) (hne : e1 ≠ e2) : Ap u v := by
  intro g h1 h2
  rcases h'.2 with ⟨rfl, _⟩ | ⟨g', cap, cur, rfl, _, hh, _⟩
  · cases h2
  · have : g' = g := Option.some.inj h2
    subst this
    exact own_ne_blk h hh hne h1
theorem OwnI.keep' {w w2 : World} {base : Nat} {A : Option Addr} {c : Nat} {xs : List Int} (h : OwnI w base A c xs) (hk : ∀ g, (Value.slice A xs.length c).ownBlock = some g → w2.heap[g]? = w.heap[g]?) : OwnI w2 base A c xs := by
  refine ⟨h.1, ?_⟩
  rcases h.2 with h2 | ⟨g, cap, cur, hv, hbg, hh, h3⟩
  · exact .inl h2
  · exact .inr ⟨g, cap, cur, hv, hbg, (hk g (by rw [hv]; rfl)).trans hh, h3⟩
def lks (lk : List Nat) : List Int := lk.map fun x : Nat => (x : Int)
theorem lks_len (lk : List Nat) : (lks lk).length = lk.length := by simp [lks]
structure BLk (w : World) (base : Nat) (A : Option Addr) (c : Nat) (bl : List Bl) (hd : Nat → Value) (Al : Option Addr) (cl : Nat) (lk : List Nat) : Prop where
  hb : HB w base A bl.length c bl hd
  lk : OwnI w base Al cl (lks lk)
section
variable {w w2 : World} {base : Nat} {A : Option Addr} {c : Nat} {bl : List Bl} {hd : Nat → Value} {Al : Option Addr} {cl : Nat} {lk : List Nat}
theorem BLk.nil (w : World) (base : Nat) : BLk w base none 0 [] (fun _ => .slice none 0 0) none 0 [] := ⟨HB.nil _ _ _, OwnI.nil _ _⟩
theorem BLk.below {B : Nat} (h : BLk w base A c bl hd Al cl lk) (hl : w.heap.size ≤ B) (hb : Below B w w2) : BLk w2 base A c bl hd Al cl lk := ⟨h.hb.below hl hb, h.lk.below hl hb⟩
theorem BLk.base' {base' : Nat} (h : BLk w base A c bl hd Al cl lk) (hb : base' ≤ base) : BLk w base' A c bl hd Al cl lk := ⟨h.hb.base' hb, h.lk.base hb⟩
theorem BLk.push (h : BLk w base A c bl hd Al cl lk) (b : Bl) (r t : Value) {g cap B0 : Nat} (hr : OwnN w base r b.rd) (ht : OwnN w base t b.wt) (hrt : Ap r t) (h0 : ∀ i, i < 2 * bl.length → ∀ k, (hd i).ownBlock = some k → k < B0) (hr0 : ∀ k, r.ownBlock = some k → B0 ≤ k) (ht0 : ∀ k, t.ownBlock = some k → B0 ≤ k)
    (hg : w.grownBy w2 (Value.slice A bl.length c).ownBlock) (ho : w2.ownsRow base 43 9 (.slice (some ⟨g, 0, none⟩) (bl.length + 1) cap) (bl.length + 1) ((List.range (bl.length * 9)).map (bF bl hd) ++ (List.range 9).map (bcell b r t))) :
    ∃ hd', BLk w2 base (some ⟨g, 0, none⟩) cap (bl ++ [b]) hd' Al cl lk := by
  have h1 := h.hb.push b r t hr ht hrt (fun i hi k k1 k2 => by have := h0 i hi k k1; have := hr0 k k2; omega) (fun i hi k k1 k2 => by have := h0 i hi k k1; have := ht0 k k2; omega) hg ho
  have e : (bl ++ [b]).length = bl.length + 1 := by simp
  refine ⟨fun i => if i = 2 * bl.length then r else if i = 2 * bl.length + 1 then t else hd i, ⟨?_, ?_⟩⟩
  · rw [e]
    exact h1
  · exact h.lk.keep' fun k hk => hg.block k ((h.lk.lt k hk).2) fun e' => own_far h.lk h.hb.row (by decide) k hk e'.symm
theorem BLk.look (h : BLk w base A c bl hd Al cl lk) (x : Nat) {Al' : Option Addr} {cl' : Nat} (hg : w.grownBy w2 (Value.slice Al (lks lk).length cl).ownBlock) (ho : OwnI w2 base Al' cl' (lks (lk ++ [x]))) : BLk w2 base A c bl hd Al' cl' (lk ++ [x]) := by
  refine ⟨h.hb.keep (fun k hk => ?_) (fun i hi k hk => ?_), ho⟩
  · exact hg.block k ((h.hb.row.lt k hk).2) fun e' => own_far h.hb.row h.lk (by decide) k hk e'.symm
  · exact hg.block k (((h.hb.own i hi).lt k hk).2) fun e' => own_far (h.hb.own i hi) h.lk (by decide) k hk e'.symm
theorem BLk.hd_lt (h : BLk w base A c bl hd Al cl lk) : ∀ i, i < 2 * bl.length → ∀ k, (hd i).ownBlock = some k → k < w.heap.size := fun i hi k hk => ((h.hb.own i hi).lt k hk).2
end
set_option linter.unusedSimpArgs false in
set_option maxRecDepth 100000 in
set_option maxHeartbeats 12800000 in
theorem refBlocks_any (A : Option Addr) (cap : Nat) (l : List Ev) (w : World) (hl : l.length ≤ 1099511627776) (hc : EvR w w.heap.size A l) :
    Calls Try.prog 19 #[.slice A l.length cap] w fun e w' => ∃ bl lk Ab cb hd Al cl, e = .returned (.tuple #[.slice Ab (List.length bl) cb, .slice Al (List.length lk) cl]) ∧ BLk w' w.heap.size Ab cb bl hd Al cl lk ∧ docX l l 0 = bl.zip lk ∧ lk.length = bl.length ∧ bl.length ≤ l.length ∧ Below w.heap.size w w' := by
  have HC := Lib.hid hc
  clear hc
  obtain ⟨R, hR⟩ : ∃ R, R = docX l l 0 := ⟨_, rfl⟩
  rw [← hR]
  have HR := Lib.hid hR
  clear hR
  go_enter Try.func19, Try.ntmps19
  go_wp2
  go_loopw [6, 4, 5] (fun i va vl wr => ∃ (p : Nat) (bl : List Bl) (lk : List Nat) (Ab : Option Addr) (cb : Nat) (hd : Nat → Value) (Al : Option Addr) (cl n : Nat), p ≤ l.length ∧ n ≤ p ∧ Hid (n = bl.length ∧ n = lk.length) ∧ i = .int .i64 p ∧ va = .slice Ab n cb ∧ vl = .slice Al n cl ∧ Hid (BLk wr w.heap.size Ab cb bl hd Al cl lk) ∧ Hid (R = bl.zip lk ++ docX l (l.drop p) p) ∧ Hid (Below w.heap.size w wr)) (fun i _ _ _ => l.length - (intOf i).toNat)
  case atStart => exact ⟨0, [], [], none, 0, _, none, 0, 0, Nat.zero_le _, Nat.zero_le _, ⟨rfl, rfl⟩, rfl, rfl, rfl, Lib.hid (BLk.nil _ _), Lib.hid (by simpa using HR.out), Lib.hid (Below.refl _ _)⟩
  case round =>
    obtain ⟨p, bl, lk, Ab, cb, hd, Al, cl, n, hp, hnp, HN, rfl, rfl, rfl, HI, HX, HB⟩ := hrel
    clear HR
    by_cases hlt : p < l.length
    · obtain ⟨eb, eo, e, hA, heb, he, hwd, e0, e1, e2, e3, e4, e5⟩ := HC.out.at_ HB.out hlt
      have hst := HX.out
      rw [docX_step he.out] at hst
      have hsz := HB.out.size
      have hbk := block_any A cap l p wr hl hlt ((HC.out.below HB.out).more hsz)
      subst hA
      obtain ⟨t, k, a, x, o, er⟩ := e
      simp only at e1 hst
      have HST := Lib.hid hst
      have HBK := Lib.hid hbk
      have i1 : (0 : Int) ≤ (p : Int) := by omega
      have i2 : (p : Int) < (l.length : Int) := by omega
      clear hst hbk he HX hwd e0 e2 e3 e4 e5
      by_cases hk1 : k = 1
      · subst hk1
        have HST2 := Lib.hid (HST.out.trans (by rw [if_pos rfl]))
        clear HST
        generalize docB l p = D at *
        obtain ⟨b, look⟩ := D
        obtain ⟨th, kd, f, la, nm, bw, er', rd, wt⟩ := b
        go_wp2_with (go_at_call 63; refine halt_ ?_)
        refine Halt_.go ?_
        refine HBK.out.mono ?_
        rintro e' w1 ⟨r, t', rfl, hr, ht, hap, hb1⟩
        obtain ⟨Ar, cr, rfl⟩ := own_shape hr
        obtain ⟨At, ct, rfl⟩ := own_shape ht
        have HI1 := Lib.hid (HI.out.below (Nat.le_refl _) hb1)
        have HB1 := Lib.hid (HB.out.trans (hb1.mono hsz))
        have h0 := HI.out.hd_lt
        have hr0 := fun k hk => (OwnN.lt hr k hk).1
        have ht0 := fun k hk => (OwnN.lt ht k hk).1
        have HP := Lib.hid (And.intro h0 (And.intro hr0 (And.intro ht0 (And.intro hap (And.intro (own_base hr hsz) (own_base ht hsz))))))
        have hsz1 := HB1.out.size
        clear h0 hr0 ht0 hap hr ht hb1 HBK HI HB
        have hrow : w1.ownsRow w.heap.size 43 9 (.slice Ab n cb) n ((List.range (n * 9)).map (bF bl hd)) := by
          rw [HN.out.1]
          exact HI1.out.hb.row
        have HROW := Lib.hid hrow
        clear hrow
        go_wp2_with (at_builtin; refine halt_ ?_)
        refine Halt_.go ?_
        refine wl_append1 _ (by rfl) (.tmp 27) (.tmp 29) 27 (by rfl) w.heap.size 43 _ 9 104 info43 Try.underlying27 rfl (by decide) (.slice Ab n cb) n ((List.range (n * 9)).map (bF bl hd)) (by rfl) ((HROW.out.alloc _).alloc _) (w1.heap.size + 1) 1 [.int .i64 th, .int .i64 kd, .int .i64 (f : Int), .int .i64 (la : Int), .int .u64 nm, .bool bw, .int .i64 er', .slice Ar rd.length cr, .slice At wt.length ct] (by rfl) (heap_at _ _ _ (by simp)) rfl (by simp [Value.oneCell']) (by omega) (by omega) (by simp; omega) _ rfl ?_
        intro g2 cap2 w2 hown2 hgr0 hat0 hlt2
        have hgr := grown_trans (grown_trans (World.grownBy_alloc w1 _ _) (World.grownBy_alloc _ _ _)) hgr0
        obtain ⟨h0, hr0, ht0, hap, hr, ht⟩ := HP.out
        obtain ⟨hd2, hP⟩ := HI1.out.push ⟨th, kd, f, la, nm, bw, er', rd, wt⟩ (.slice Ar rd.length cr) (.slice At wt.length ct) (B0 := wr.heap.size) (w2 := w2) hr ht hap h0 hr0 ht0 (by rw [← HN.out.1]; exact hgr) (by rw [← HN.out.1]; exact hown2)
        have hB2 := HB1.out.grown hgr hsz1 (fun k hk => (HROW.out.lt k hk).1)
        have hlrow : w2.ownsRow w.heap.size 3 1 (.slice Al n cl) n (ints (lks lk)) := by
          have := hP.lk
          unfold OwnI at this
          rw [lks_len, ← HN.out.2] at this
          exact this
        have HI2 := Lib.hid hP
        have HB2 := Lib.hid hB2
        have HLROW := Lib.hid hlrow
        have hsz2 := hB2.size
        clear hP hB2 hlrow hown2 hgr0 hat0 hlt2 hgr h0 hr0 ht0 hap hr ht HP HI1 HB1 HROW
        go_wp2_with (at_builtin; refine halt_ ?_)
        refine Halt_.go ?_
        refine wl_append1 _ (by rfl) (.tmp 31) (.tmp 33) 31 (by rfl) w.heap.size 3 _ 1 8 info3 Try.underlying31 rfl (by decide) (.slice Al n cl) n (ints (lks lk)) (by rfl) (HLROW.out.alloc _) w2.heap.size 1 [.int .i64 (look : Int)] (by rfl) (heap_at _ _ _ rfl) rfl (by simp [Value.oneCell']) (by omega) (by omega) (by simp; omega) _ rfl ?_
        intro g3 cap3 w3 hown3 hgr3 hat3 hlt3
        have hgr := grown_trans (World.grownBy_alloc w2 _ _) hgr3
        have hl3 : (lks (lk ++ [look])).length = n + 1 := by rw [lks_len, List.length_append, ← HN.out.2]; rfl
        have hP := HI2.out.look look (w2 := w3) (Al' := some ⟨g3, 0, none⟩) (cl' := cap3) (by rw [lks_len, ← HN.out.2]; exact hgr) (by
          unfold OwnI
          rw [hl3, show ints (lks (lk ++ [look])) = ints (lks lk) ++ [.int .i64 (look : Int)] from by simp [ints, lks]]
          exact hown3)
        have HI3 := Lib.hid hP
        have HB3 := Lib.hid (HB2.out.grown hgr hsz2 (fun k hk => (HLROW.out.lt k hk).1))
        have HN2 : Hid (n + 1 = (bl ++ [(⟨th, kd, f, la, nm, bw, er', rd, wt⟩ : Bl)]).length ∧ n + 1 = (lk ++ [look]).length) := by
          have := HN.out
          exact ⟨by simp; omega, by simp; omega⟩
        have HX2 : Hid (R = (bl ++ [(⟨th, kd, f, la, nm, bw, er', rd, wt⟩ : Bl)]).zip (lk ++ [look]) ++ docX l (l.drop (p + 1)) (p + 1)) := by
          have h1 := HN.out
          have h2 := HST2.out
          show R = _
          rw [List.zip_append (by omega), h2]
          simp
        clear hP hgr hl3 hown3 hgr3 hat3 hlt3 HI2 HB2 HLROW HST2 HN
        go_wp2
        go_roundw
        case rel => exact ⟨p + 1, _, _, _, _, _, _, _, n + 1, hlt, by omega, HN2, by go_num, rfl, rfl, HI3, HX2, HB3⟩
        case measure => simp [intOf]; omega
      · have HX2 := Lib.hid (show R = bl.zip lk ++ docX l (l.drop (p + 1)) (p + 1) by rw [HST.out, if_neg hk1])
        have k1 : (k == 1) = false := by simpa using hk1
        clear HST HBK hk1
        go_wp2
        go_roundw
        case rel => exact ⟨p + 1, bl, lk, Ab, cb, hd, Al, cl, n, hlt, by omega, HN, by go_num, rfl, rfl, HI, HX2, HB⟩
        case measure => simp [intOf]; omega
    · obtain rfl : p = l.length := by omega
      have hst := HX.out
      rw [docX_end, List.append_nil] at hst
      have HF := Lib.hid hst
      clear hst HX
      go_wp2
      go_ret2
      obtain ⟨h1, h2⟩ := HN.out
      exact ⟨bl, lk, Ab, cb, hd, Al, cl, by rw [← h1, ← h2]; rfl, HI.out, HF.out, by omega, by omega, HB.out⟩
end Go.Proofs.Ytjifpjfinffamaa
end
section
namespace Go.Proofs.Ytjifpjfinffamaa
open Go.RowKit
theorem andnot_nat (x : Nat) (hx : x < 18446744073709551616) : x &&& 18446744073709551614 = x - x % 2 := by
  apply Nat.eq_of_testBit_eq
  intro i
  rw [Nat.testBit_and]
  have e : x - x % 2 = 2 * (x / 2) := by omega
  rw [e]
  cases i with
  | zero => simp [Nat.testBit_zero]
  | succ i =>
    rw [Nat.testBit_succ, Nat.testBit_succ, Nat.testBit_succ, show 18446744073709551614 / 2 = 2 ^ 63 - 1 from rfl, Nat.testBit_two_pow_sub_one, show 2 * (x / 2) / 2 = x / 2 by omega]
    by_cases h : i < 63
    · simp [h]
    · have : (x / 2).testBit i = false := Nat.testBit_lt_two_pow (Nat.lt_of_lt_of_le (show x / 2 < 2 ^ 63 by omega) (Nat.pow_le_pow_right (by decide) (by omega)))
      simp [h, this]
theorem andnot1 (x : Int) (h : 0 ≤ x ∧ x < 18446744073709551616) : bits BinOp.andNot .u64 x 1 = x - x % 2 := by
  obtain ⟨x, rfl⟩ := Int.eq_ofNat_of_zero_le h.1
  have hx : x < 18446744073709551616 := by have := h.2; omega
  show IntKind.u64.wrap ((BitVec.ofInt 64 (x : Int) &&& ~~~(BitVec.ofInt 64 1)).toNat : Int) = _
  rw [BitVec.ofInt_natCast, BitVec.toNat_and, BitVec.toNat_ofNat, Nat.mod_eq_of_lt hx, show (~~~(BitVec.ofInt 64 1)).toNat = 18446744073709551614 from by decide, andnot_nat x hx, IntWalk.u64_in _ (by omega)]
  omega
set_option linter.unusedSimpArgs false in
set_option maxRecDepth 100000 in
set_option maxHeartbeats 3200000 in
theorem evFormed_any (e : Ev) (w : World) (he : e.Wd) : Calls Try.prog 137 #[evV e] w fun e' w' => e' = .returned (.bool (decide (Fm e))) ∧ Below w.heap.size w w' := by
  obtain ⟨th, k, a, x, o, er⟩ := e
  have hB : ∀ o1 o2 : Obj, Below w.heap.size w ((w.alloc o1).alloc o2) := fun o1 o2 => ((Below.refl w.heap.size w).alloc (Nat.le_refl _) o1).alloc (by simp) o2
  have HB := Lib.hid hB
  have HD := Lib.hid (andnot1 x he.2)
  by_cases h1 : (0 ≤ th ∧ th < 8) ∧ (1 ≤ k ∧ k ≤ 12)
  · obtain ⟨⟨h1, h2⟩, h3⟩ := h1
    have e1 : decide (Fm ⟨th, k, a, x, o, er⟩) = decide (Rest ⟨th, k, a, x, o, er⟩) := by simp [Fm, h1, h2, h3.1, h3.2]
    rw [e1]
    show Calls Try.prog 137 #[.agg #[.int .i64 th, .int .i64 k, .int .u64 a, .int .u64 x, .bool o, .int .i64 er]] w fun e' w' => e' = .returned (.bool (decide (Rest ⟨th, k, a, x, o, er⟩))) ∧ Below w.heap.size w w'
    go_enter Try.func137, Try.ntmps137
    rcases kinds h3 with rfl | rfl | rfl | rfl | rfl | rfl | rfl | rfl | rfl | rfl | rfl | rfl
    all_goals
      clear e1 h3 hB
      go_wp2
      all_goals try (go_region; go_wp2)
      all_goals
        go_ret
        refine ⟨?_, by go_grown⟩
        have hd := HD.out
        simp_all [Rest, PairK, SingleK]
        try omega
  · have e1 : decide (Fm ⟨th, k, a, x, o, er⟩) = false := by
      refine decide_eq_false ?_
      rintro ⟨h2, h3, _⟩
      exact h1 ⟨h2, h3⟩
    rw [e1]
    show Calls Try.prog 137 #[.agg #[.int .i64 th, .int .i64 k, .int .u64 a, .int .u64 x, .bool o, .int .i64 er]] w fun e' w' => e' = .returned (.bool false) ∧ Below w.heap.size w w'
    go_enter Try.func137, Try.ntmps137
    by_cases a1 : th < 0
    · go_wp2
      go_ret
      exact ⟨rfl, by go_grown⟩
    · by_cases a2 : 8 ≤ th
      · go_wp2
        go_ret
        exact ⟨rfl, by go_grown⟩
      · have hk : k < 1 ∨ 12 < k := by omega
        have b1 : (k == 1) = false := by simp; omega
        have b2 : (k == 2) = false := by simp; omega
        have b3 : (k == 3) = false := by simp; omega
        have b4 : (k == 4) = false := by simp; omega
        have b5 : (k == 5) = false := by simp; omega
        have b6 : (k == 6) = false := by simp; omega
        have b7 : (k == 7) = false := by simp; omega
        have b8 : (k == 8) = false := by simp; omega
        have b9 : (k == 9) = false := by simp; omega
        have b10 : (k == 10) = false := by simp; omega
        have b11 : (k == 11) = false := by simp; omega
        have b12 : (k == 12) = false := by simp; omega
        clear hk h1 e1
        go_wp2
        go_ret
        exact ⟨rfl, by go_grown⟩
end Go.Proofs.Ytjifpjfinffamaa
end
