/- Plain: the document's blocks are those that one pass cuts out. -/
import Derived.Test.YtjifpjfinffamaaY4
import Derived.Test.YtjifpjfinffamaaY5
namespace Go.Proofs.Ytjifpjfinffamaa
open Go.RowKit

def begB (e : Ev) (i : Nat) : Bl := ⟨e.th, 5, i, i, e.word / 2, false, 0, [], []⟩
/-- an open block behind an event of its thread -/
def clB (b : Bl) (e : Ev) : Bl :=
  if e.kind = 6 then { b with kind := 1, num := e.word } else if e.kind = 8 then { b with kind := 2 } else if e.kind = 9 then { b with kind := 3, err := e.err } else if e.kind = 7 then { b with kind := 4 } else stB b e
def evB (b : Bl) (i : Nat) (e : Ev) : Bl := clB { b with last := i } e
def finW (b : Bl) : Bl := { b with wr := b.wr && decide (b.kind = 1) }
/-- an open block of the thread, and its look, over what comes -/
def blkR (th : Int) : Bl → Nat → List Ev → Nat → Bl × Nat
  | b, look, [], _ => (b, look)
  | b, look, e :: r, i => if e.th ≠ th then blkR th b look r (i + 1) else if OverK e.kind then (evB b i e, look)
    else blkR th (if e.kind = 1 then { b with last := i, num := e.word / 2 } else evB b i e) (if e.kind = 1 ∨ e.kind = 4 then i else look) r (i + 1)
theorem overK_not {k : Int} (h : ¬ OverK k) : k ≠ 6 ∧ k ≠ 8 ∧ k ≠ 9 ∧ k ≠ 7 :=
  ⟨fun e => h (.inl e), fun e => h (.inr (.inl e)), fun e => h (.inr (.inr (.inl e))), fun e => h (.inr (.inr (.inr e)))⟩

theorem blkR_doc (l : List Ev) (th : Int) (at_ : Nat) : ∀ (n p : Nat) (s : BS) (last : Nat), l.length - p = n → last < p → p ≤ l.length →
    ((finW (blkR th ⟨th, 5, at_, last, s.num, s.lk, 0, s.rd, s.wt⟩ s.look (l.drop p) p).1, (blkR th ⟨th, 5, at_, last, s.num, s.lk, 0, s.rd, s.wt⟩ s.look (l.drop p) p).2) : Bl × Nat) =
      (finB th at_ (endF th (l.drop p) p last).1 (endF th (l.drop p) p last).2 (l.getD (endF th (l.drop p) p last).1 ev0) (bfo th s (l.drop p) p ((endF th (l.drop p) p last).1 + 1 - p)), (bfo th s (l.drop p) p ((endF th (l.drop p) p last).1 + 1 - p)).look)
  | 0, p, s, last, hn, hlp, hp => by
    obtain rfl : p = l.length := by omega
    rw [endF_end, bfo_end hlp, List.drop_length]
    simp [blkR, finW, finB]
  | n + 1, p, s, last, hn, hlp, hp => by
    have hlt : p < l.length := by omega
    have he : l[p]? = some l[p] := List.getElem?_eq_getElem hlt
    generalize hee : l[p] = e at he
    have ih := fun s' last' h' => blkR_doc l th at_ n (p + 1) s' last' (by omega) h' (by omega)
    rw [endF_step he]
    have hbl : ∀ b look, blkR th b look (l.drop p) p = if e.th ≠ th then blkR th b look (l.drop (p + 1)) (p + 1) else if OverK e.kind then (evB b p e, look)
        else blkR th (if e.kind = 1 then { b with last := p, num := e.word / 2 } else evB b p e) (if e.kind = 1 ∨ e.kind = 4 then p else look) (l.drop (p + 1)) (p + 1) := by
      intro b look
      rw [List.drop_eq_getElem_cons hlt, hee]
      rfl
    rw [hbl]
    by_cases ht : e.th = th
    · have hn1 : ¬ (e.th ≠ th) := by simpa using ht
      rw [if_neg hn1, if_neg hn1]
      by_cases hk : OverK e.kind
      · rw [if_pos hk, if_pos hk]
        dsimp only
        rw [bfo_step he (Nat.le_refl p), bfo_end (Nat.lt_succ_self p)]
        have hg : l.getD p ev0 = e := by simp [List.getD, he]
        rw [hg]
        rcases hk with k | k | k | k <;> simp [bst, ht, k, finB, finW, evB, clB]
      · rw [if_neg hk, if_neg hk]
        have hz := endF_range th (l.drop (p + 1)) (p + 1) p (Nat.lt_succ_self p)
        rw [bfo_step he hz.1]
        have := ih (bst th s p e) p (Nat.lt_succ_self p)
        rw [← this]
        obtain ⟨q6, q8, q9, q7⟩ := overK_not hk
        have hst : (if e.kind = 1 then ({ (⟨th, 5, at_, last, s.num, s.lk, 0, s.rd, s.wt⟩ : Bl) with last := p, num := e.word / 2 } : Bl) else evB ⟨th, 5, at_, last, s.num, s.lk, 0, s.rd, s.wt⟩ p e) = ⟨th, 5, at_, p, (bst th s p e).num, (bst th s p e).lk, 0, (bst th s p e).rd, (bst th s p e).wt⟩ := by
          unfold bst evB clB stB
          rw [if_neg hn1, if_neg q6, if_neg q8, if_neg q9, if_neg q7]
          by_cases k1 : e.kind = 1
          · simp [k1]
          · by_cases k4 : e.kind = 4
            · simp [k4]
            · by_cases k2 : e.kind = 2
              · simp [k2]
                split <;> rfl
              · by_cases k3 : e.kind = 3
                · simp [k3]
                · by_cases k5 : e.kind = 5
                  · simp [k5]
                  · simp [k1, k2, k3, k4, k5]
        have hlk : (if e.kind = 1 ∨ e.kind = 4 then p else s.look) = (bst th s p e).look := by
          unfold bst
          rw [if_neg hn1]
          by_cases k1 : e.kind = 1 ∨ e.kind = 4
          · simp [k1]
          · rw [if_neg k1, if_neg k1]
            split
            · split <;> rfl
            · split
              · rfl
              · split <;> rfl
        rw [hst, hlk]
    · rw [if_pos ht, if_pos ht, ih s last (by omega)]
      have hbs : bst th s p e = s := by
        unfold bst
        rw [if_pos ht]
      by_cases hz : p ≤ (endF th (l.drop (p + 1)) (p + 1) last).1
      · rw [bfo_step he hz, hbs]
      · rw [bfo_end (by omega), bfo_end (by omega)]

theorem docB_blkR {l : List Ev} {at_ : Nat} {e : Ev} (he : l[at_]? = some e) (hk : e.kind = 1) :
    docB l at_ = (finW (blkR e.th (begB e at_) at_ (l.drop (at_ + 1)) (at_ + 1)).1, (blkR e.th (begB e at_) at_ (l.drop (at_ + 1)) (at_ + 1)).2) := by
  have hlt := (List.getElem?_eq_some_iff.1 he).1
  have hg : l.getD at_ ev0 = e := by simp [List.getD, he]
  have hz := endF_range e.th (l.drop (at_ + 1)) (at_ + 1) at_ (Nat.lt_succ_self _)
  have h := blkR_doc l e.th at_ _ (at_ + 1) ⟨e.word / 2, [], [], at_, false⟩ at_ rfl (Nat.lt_succ_self _) hlt
  have hb : bst e.th (bs0 at_) at_ e = ⟨e.word / 2, [], [], at_, false⟩ := by simp [bst, hk, bs0]
  unfold docB begB
  rw [hg, bfo_step he hz.1, hb]
  exact h.symm

/-! the pass -/
structure CS where
  bl : List Bl
  lk : List Nat
  op : Int → Option Nat
def cutS (s : CS) (i : Nat) (e : Ev) : CS :=
  if e.kind = 1 then ⟨s.bl ++ [begB e i], s.lk ++ [i], fun t => if t = e.th then some s.bl.length else s.op t⟩
  else match s.op e.th with
    | none => s
    | some k => ⟨s.bl.set k (evB (blAt s.bl k) i e), if e.kind = 4 then s.lk.set k i else s.lk, if OverK e.kind then fun t => if t = e.th then none else s.op t else s.op⟩
def cutF : CS → List Ev → Nat → CS
  | s, [], _ => s
  | s, e :: r, i => cutF (cutS s i e) r (i + 1)
def cs0 : CS := ⟨[], [], fun _ => none⟩
theorem cutF_step {l : List Ev} {p : Nat} {e : Ev} (he : l[p]? = some e) (s : CS) : cutF s (l.drop p) p = cutF (cutS s p e) (l.drop (p + 1)) (p + 1) := by
  obtain ⟨hp', rfl⟩ := List.getElem?_eq_some_iff.1 he
  rw [List.drop_eq_getElem_cons hp']
  rfl
theorem cutF_end {l : List Ev} (s : CS) : cutF s (l.drop l.length) l.length = s := by
  rw [List.drop_length]
  rfl
/-- the blocks that begin from here on -/
def docR : List Ev → Nat → List (Bl × Nat)
  | [], _ => []
  | e :: r, i => if e.kind = 1 then blkR e.th (begB e i) i r (i + 1) :: docR r (i + 1) else docR r (i + 1)
def docX (l : List Ev) : List Ev → Nat → List (Bl × Nat)
  | [], _ => []
  | e :: r, i => if e.kind = 1 then docB l i :: docX l r (i + 1) else docX l r (i + 1)
theorem docX_step {l : List Ev} {p : Nat} {e : Ev} (he : l[p]? = some e) : docX l (l.drop p) p = if e.kind = 1 then docB l p :: docX l (l.drop (p + 1)) (p + 1) else docX l (l.drop (p + 1)) (p + 1) := by
  obtain ⟨hp', rfl⟩ := List.getElem?_eq_some_iff.1 he
  rw [List.drop_eq_getElem_cons hp']
  rfl
theorem docX_end {l : List Ev} : docX l (l.drop l.length) l.length = [] := by
  rw [List.drop_length]
  rfl
theorem docR_cons (e : Ev) (r : List Ev) (i : Nat) : docR (e :: r) i = if e.kind = 1 then blkR e.th (begB e i) i r (i + 1) :: docR r (i + 1) else docR r (i + 1) := rfl
theorem docX_docR (l : List Ev) : ∀ (n p : Nat), l.length - p = n → p ≤ l.length → docX l (l.drop p) p = (docR (l.drop p) p).map fun x => (finW x.1, x.2)
  | 0, p, hn, hp => by
    obtain rfl : p = l.length := by omega
    rw [docX_end, List.drop_length]
    rfl
  | n + 1, p, hn, hp => by
    have hlt : p < l.length := by omega
    have ih := docX_docR l n (p + 1) (by omega) (by omega)
    rw [docX_step (List.getElem?_eq_getElem hlt), List.drop_eq_getElem_cons hlt, ih, docR_cons]
    by_cases hk : l[p].kind = 1
    · rw [if_pos hk, if_pos hk, List.map_cons, docB_blkR (List.getElem?_eq_getElem hlt) hk]
    · rw [if_neg hk, if_neg hk]

/-- open blocks: those of the threads that are within one -/
structure CRel (c : CS) (s : SS) : Prop where
  len : c.lk.length = c.bl.length
  how : ∀ t : Int, 0 ≤ t → t < 8 → ((∃ k, c.op t = some k) ↔ (s.t t.toNat).how = 1 ∨ (s.t t.toNat).how = 2)
  own : ∀ t k, c.op t = some k → k < c.bl.length ∧ (blAt c.bl k).th = t
def runC (c : CS) (r : List Ev) (i j : Nat) : Bl × Nat :=
  if c.op (blAt c.bl j).th = some j then blkR (blAt c.bl j).th (blAt c.bl j) (c.lk.getD j 0) r i else (blAt c.bl j, c.lk.getD j 0)
theorem evB_th (b : Bl) (i : Nat) (e : Ev) : (evB b i e).th = b.th := by
  unfold evB clB stB
  repeat' split
  all_goals rfl
theorem nextI_how {how kind err : Int} (h : 0 ≤ nextI how kind err) : (how = 0 ∧ (kind = 1 ∨ nextI how kind err = 0 ∨ nextI how kind err = 3) ∧ ¬ (kind ≠ 1 ∧ (nextI how kind err = 1 ∨ nextI how kind err = 2))) ∨
    ((how = 1 ∨ how = 2) ∧ kind ≠ 1) := by
  unfold nextI at h ⊢
  by_cases h0 : how = 0
  · subst h0
    left
    refine ⟨rfl, ?_, ?_⟩ <;> simp only [if_true] at h ⊢ <;> (repeat' split) <;> simp_all
  · right
    rw [if_neg h0] at h
    by_cases h1 : how = 1
    · refine ⟨.inl h1, fun k => ?_⟩
      subst k
      simp [h1] at h
    · by_cases h2 : how = 2
      · refine ⟨.inr h2, fun k => ?_⟩
        subst k
        simp [h2] at h
      · simp [h1, h2] at h
theorem nextI_open {how kind err : Int} (hh : how = 1 ∨ how = 2) (h : 0 ≤ nextI how kind err) : (nextI how kind err = 1 ∨ nextI how kind err = 2) ↔ ¬ OverK kind := by
  unfold OverK
  unfold nextI at h ⊢
  rcases hh with rfl | rfl
  · simp only [Int.one_ne_zero, if_false, if_true] at h ⊢
    (repeat' split) <;> simp_all <;> omega
  · simp at h ⊢
    (repeat' split) <;> simp_all
theorem putE_ok {s : SS} {e : Ev} (h : putE s e = 0) : Fm e ∧ 0 ≤ nextI (s.t e.th.toNat).how e.kind e.err := by
  unfold putE at h
  by_cases h1 : Fm e
  · rw [if_neg (by simpa using h1)] at h
    by_cases h2 : nextI (s.t e.th.toNat).how e.kind e.err < 0
    · rw [if_pos h2] at h
      simp at h
    · exact ⟨h1, by omega⟩
  · rw [if_pos h1] at h
    simp at h
theorem CRel.start : CRel cs0 ss0 := ⟨rfl, fun t _ _ => by simp [cs0, ss0], fun t k h => by cases h⟩
theorem CRel.none_ {c : CS} {s : SS} (h : CRel c s) {e : Ev} (hp : putE s e = 0) (hk : e.kind = 1) : c.op e.th = none := by
  obtain ⟨hf, hn⟩ := putE_ok hp
  have := h.how e.th hf.1.1 hf.1.2
  cases ho : c.op e.th with
  | none => rfl
  | some k =>
    rw [ho] at this
    have h1 := this.1 ⟨k, rfl⟩
    rcases nextI_how hn with h2 | h2
    · omega
    · exact absurd hk h2.2
theorem CRel.step {c : CS} {s : SS} (h : CRel c s) (i : Nat) {e : Ev} (hp : putE s e = 0) : CRel (cutS c i e) (adv s e) := by
  obtain ⟨hf, hn⟩ := putE_ok hp
  have hth : ∀ t : Int, 0 ≤ t → t < 8 → t ≠ e.th → ((adv s e).t t.toNat).how = (s.t t.toNat).how := by
    intro t h0 h1 h2
    have : t.toNat ≠ e.th.toNat := by have := hf.1.1; omega
    simp [adv, this]
  have hee : ((adv s e).t e.th.toNat).how = nextI (s.t e.th.toNat).how e.kind e.err := by simp [adv, advT]
  have hhe := h.how e.th hf.1.1 hf.1.2
  by_cases hk : e.kind = 1
  · have ho := h.none_ hp hk
    unfold cutS
    rw [if_pos hk]
    refine ⟨by simp [h.len], fun t h0 h1 => ?_, fun t k => ?_⟩
    · by_cases ht : t = e.th
      · subst ht
        rw [hee]
        have h3 : (s.t e.th.toNat).how = 0 := by
          rcases nextI_how hn with h2 | h2
          · exact h2.1
          · exact absurd hk h2.2
        simp [h3, hk, nextI]
      · rw [hth t h0 h1 ht]
        simp only [if_neg ht]
        exact h.how t h0 h1
    · dsimp only
      by_cases ht : t = e.th
      · rw [if_pos ht]
        intro hh
        injection hh with hh
        subst hh
        refine ⟨by simp, ?_⟩
        simp [blAt, List.getD, begB, ht]
      · rw [if_neg ht]
        intro hh
        obtain ⟨h1, h2⟩ := h.own t k hh
        refine ⟨by simp; omega, ?_⟩
        rw [← h2]
        simp [blAt, List.getD, List.getElem?_append_left h1]
  · unfold cutS
    rw [if_neg hk]
    cases ho : c.op e.th with
    | none =>
      dsimp only
      refine ⟨h.len, fun t h0 h1 => ?_, h.own⟩
      by_cases ht : t = e.th
      · subst ht
        rw [hee]
        have h2 : ¬ ((s.t e.th.toNat).how = 1 ∨ (s.t e.th.toNat).how = 2) := fun q => by
          obtain ⟨k, hk⟩ := hhe.2 q
          rw [ho] at hk
          cases hk
        rcases nextI_how hn with h3 | h3
        · constructor
          · rintro ⟨k, hk⟩
            rw [ho] at hk
            cases hk
          · exact fun q => absurd ⟨hk, q⟩ h3.2.2
        · exact absurd h3.1 h2
      · rw [hth t h0 h1 ht]
        exact h.how t h0 h1
    | some k =>
      dsimp only
      obtain ⟨hkl, hkt⟩ := h.own e.th k ho
      have hopen := hhe.1 ⟨k, ho⟩
      have hnx := nextI_open hopen hn
      refine ⟨?_, fun t h0 h1 => ?_, fun t k' => ?_⟩
      · split <;> simp [h.len]
      · by_cases ht : t = e.th
        · subst ht
          rw [hee, hnx]
          by_cases hov : OverK e.kind
          · simp [hov]
          · simp [hov, ho]
        · rw [hth t h0 h1 ht, ← h.how t h0 h1]
          by_cases hov : OverK e.kind
          · simp [hov, ht]
          · simp [hov]
      · intro hh
        have hh1 : (if OverK e.kind then fun t => if t = e.th then none else c.op t else c.op) t = some k' := hh
        have hh2 : c.op t = some k' := by
          by_cases hov : OverK e.kind
          · rw [if_pos hov] at hh1
            by_cases ht : t = e.th
            · rw [if_pos ht] at hh1
              cases hh1
            · rwa [if_neg ht] at hh1
          · rwa [if_neg hov] at hh1
        obtain ⟨h1, h2⟩ := h.own t k' hh2
        refine ⟨by simpa using h1, ?_⟩
        rw [blAt_set hkl]
        split
        · rename_i e1
          subst e1
          rw [evB_th]
          exact h2
        · exact h2

theorem blkR_step (th : Int) (b : Bl) (look : Nat) (e : Ev) (r : List Ev) (i : Nat) (h : e.th = th) (h1 : e.kind ≠ 1) (ho : ¬ OverK e.kind) : blkR th b look (e :: r) i = blkR th (evB b i e) (if e.kind = 4 then i else look) r (i + 1) := by
  show (if e.th ≠ th then _ else _) = _
  rw [if_neg (by simpa using h), if_neg ho, if_neg h1]
  simp [h1]
theorem runC_pos {c : CS} {r : List Ev} {i j : Nat} (h : c.op (blAt c.bl j).th = some j) : runC c r i j = blkR (blAt c.bl j).th (blAt c.bl j) (c.lk.getD j 0) r i := if_pos h
theorem runC_neg {c : CS} {r : List Ev} {i j : Nat} (h : c.op (blAt c.bl j).th ≠ some j) : runC c r i j = (blAt c.bl j, c.lk.getD j 0) := if_neg h
theorem runC_step {c : CS} {s : SS} (h : CRel c s) {e : Ev} (r : List Ev) (i : Nat) (hp : putE s e = 0) {j : Nat} (hj : j < c.bl.length) : runC (cutS c i e) r (i + 1) j = runC c (e :: r) i j := by
  have hno : (blAt c.bl j).th ≠ e.th → ∀ look, blkR (blAt c.bl j).th (blAt c.bl j) look (e :: r) i = blkR (blAt c.bl j).th (blAt c.bl j) look r (i + 1) := by
    intro q look
    show (if e.th ≠ _ then _ else _) = _
    rw [if_pos (fun q' => q q'.symm)]
  have hlk := h.len
  -- where the block and its look are kept
  have same : blAt (cutS c i e).bl j = blAt c.bl j → (cutS c i e).lk.getD j 0 = c.lk.getD j 0 → ((cutS c i e).op (blAt c.bl j).th = some j ↔ c.op (blAt c.bl j).th = some j) → (c.op (blAt c.bl j).th = some j → (blAt c.bl j).th ≠ e.th) → runC (cutS c i e) r (i + 1) j = runC c (e :: r) i j := by
    intro hb hl ho hne
    by_cases hc : c.op (blAt c.bl j).th = some j
    · rw [runC_pos hc, runC_pos (by rw [hb]; exact ho.2 hc), hb, hl, hno (hne hc)]
    · rw [runC_neg hc, runC_neg (by rw [hb]; exact fun q => hc (ho.1 q)), hb, hl]
  by_cases hk : e.kind = 1
  · have ho := h.none_ hp hk
    have hc' : cutS c i e = ⟨c.bl ++ [begB e i], c.lk ++ [i], fun t => if t = e.th then some c.bl.length else c.op t⟩ := by unfold cutS; rw [if_pos hk]
    apply same
    · rw [hc']
      simp [blAt, List.getD, List.getElem?_append_left hj]
    · rw [hc']
      simp [List.getD, List.getElem?_append_left (show j < c.lk.length by omega)]
    · rw [hc']
      dsimp only
      by_cases ht : (blAt c.bl j).th = e.th
      · rw [if_pos ht, ht, ho]
        simp
        omega
      · rw [if_neg ht]
    · intro q q'
      rw [q', ho] at q
      cases q
  · cases ho : c.op e.th with
    | none =>
      have hc' : cutS c i e = c := by unfold cutS; rw [if_neg hk, ho]
      apply same
      · rw [hc']
      · rw [hc']
      · rw [hc']
      · intro q q'
        rw [q', ho] at q
        cases q
    | some k =>
      obtain ⟨hkl, hkt⟩ := h.own e.th k ho
      have hc' : cutS c i e = ⟨c.bl.set k (evB (blAt c.bl k) i e), if e.kind = 4 then c.lk.set k i else c.lk, if OverK e.kind then fun t => if t = e.th then none else c.op t else c.op⟩ := by unfold cutS; rw [if_neg hk, ho]
      by_cases hjk : j = k
      · subst hjk
        have hb : blAt (cutS c i e).bl j = evB (blAt c.bl j) i e := by
          rw [hc']
          dsimp only
          rw [blAt_set hkl, if_pos rfl]
        have hth : (blAt (cutS c i e).bl j).th = e.th := by rw [hb, evB_th, hkt]
        have hpos : c.op (blAt c.bl j).th = some j := by rw [hkt]; exact ho
        rw [runC_pos hpos]
        by_cases hov : OverK e.kind
        · have h4 : ¬ e.kind = 4 := fun q => by rw [q] at hov; revert hov; decide
          have hop : (cutS c i e).op e.th = none := by
            rw [hc']
            dsimp only
            rw [if_pos hov, if_pos rfl]
          have hl : (cutS c i e).lk.getD j 0 = c.lk.getD j 0 := by
            rw [hc']
            dsimp only
            rw [if_neg h4]
          rw [runC_neg (by rw [hth, hop]; simp), hb, hl]
          show _ = (if e.th ≠ _ then _ else _)
          rw [if_neg (by simp [hkt]), if_pos hov]
        · have hop : (cutS c i e).op e.th = some j := by
            rw [hc']
            dsimp only
            rw [if_neg hov]
            exact ho
          rw [runC_pos (by rw [hth]; exact hop), hth, hb, hkt, blkR_step _ _ _ _ _ _ rfl hk hov, hc']
          dsimp only
          by_cases h4 : e.kind = 4
          · rw [if_pos h4, if_pos h4]
            congr 1
            simp [List.getD, show j < c.lk.length by omega]
          · rw [if_neg h4, if_neg h4]
      · apply same
        · rw [hc']
          dsimp only
          rw [blAt_set hkl, if_neg hjk]
        · rw [hc']
          dsimp only
          split
          · simp only [List.getD]
            rw [List.getElem?_set_ne (fun e' => hjk e'.symm)]
          · rfl
        · rw [hc']
          dsimp only
          by_cases hov : OverK e.kind
          · rw [if_pos hov]
            by_cases ht : (blAt c.bl j).th = e.th
            · rw [if_pos ht, ht, ho]
              simp
              exact fun q => hjk q.symm
            · rw [if_neg ht]
          · rw [if_neg hov]
        · intro q q'
          rw [q', ho] at q
          injection q with q
          exact hjk q.symm
theorem range_blAt (L : List Bl) : (List.range L.length).map (blAt L) = L := by
  apply List.ext_getElem?
  intro i
  by_cases hi : i < L.length
  · simp [hi, blAt, List.getD]
  · rw [List.getElem?_eq_none (by simp; omega), List.getElem?_eq_none (by omega)]
theorem range_getD (L : List Nat) : (List.range L.length).map (fun i => L.getD i 0) = L := by
  apply List.ext_getElem?
  intro i
  by_cases hi : i < L.length
  · simp [hi, List.getD]
  · rw [List.getElem?_eq_none (by simp; omega), List.getElem?_eq_none (by omega)]
theorem cutF_docR : ∀ (r : List Ev) (i : Nat) (c : CS) (s : SS), CRel c s → chk s r i = (-1, 0) →
    (cutF c r i).bl = (List.range c.bl.length).map (fun j => (runC c r i j).1) ++ (docR r i).map (·.1) ∧ (cutF c r i).lk = (List.range c.bl.length).map (fun j => (runC c r i j).2) ++ (docR r i).map (·.2)
  | [], i, c, s, h, _ => by
    have hr : ∀ j, runC c [] i j = (blAt c.bl j, c.lk.getD j 0) := fun j => by unfold runC; split <;> rfl
    simp only [hr, cutF, docR, List.map_nil, List.append_nil]
    refine ⟨(range_blAt c.bl).symm, ?_⟩
    rw [← h.len]
    exact (range_getD c.lk).symm
  | e :: r, i, c, s, h, hc => by
    have hp : putE s e = 0 := by
      unfold chk at hc
      split at hc
      · assumption
      · injection hc with h1 h2
    have hc' : chk (adv s e) r (i + 1) = (-1, 0) := by
      unfold chk at hc
      rwa [if_pos hp] at hc
    have h' := h.step i hp
    obtain ⟨ih1, ih2⟩ := cutF_docR r (i + 1) (cutS c i e) (adv s e) h' hc'
    show (cutF (cutS c i e) r (i + 1)).bl = _ ∧ (cutF (cutS c i e) r (i + 1)).lk = _
    rw [ih1, ih2]
    by_cases hk : e.kind = 1
    · have hlen : (cutS c i e).bl.length = c.bl.length + 1 := by
        unfold cutS
        rw [if_pos hk]
        simp
      have hlast : runC (cutS c i e) r (i + 1) c.bl.length = blkR e.th (begB e i) i r (i + 1) := by
        have hb : blAt (cutS c i e).bl c.bl.length = begB e i := by
          unfold cutS
          rw [if_pos hk]
          simp [blAt, List.getD]
        have hl : (cutS c i e).lk.getD c.bl.length 0 = i := by
          unfold cutS
          rw [if_pos hk]
          simp [List.getD, ← h.len]
        have ho : (cutS c i e).op e.th = some c.bl.length := by
          unfold cutS
          rw [if_pos hk]
          simp
        rw [runC_pos (by rw [hb]; exact ho), hb, hl]
        rfl
      have hd : docR (e :: r) i = blkR e.th (begB e i) i r (i + 1) :: docR r (i + 1) := by
        show (if _ then _ else _) = _
        rw [if_pos hk]
      rw [hlen, hd, List.range_succ]
      simp only [List.map_append, List.map_cons, List.map_nil, List.append_assoc, List.singleton_append, hlast]
      constructor
      · congr 1
        exact List.map_congr_left fun j hj => by rw [runC_step h r i hp (List.mem_range.1 hj)]
      · congr 1
        exact List.map_congr_left fun j hj => by rw [runC_step h r i hp (List.mem_range.1 hj)]
    · have hlen : (cutS c i e).bl.length = c.bl.length := by
        unfold cutS
        rw [if_neg hk]
        split <;> simp
      have hd : docR (e :: r) i = docR r (i + 1) := by
        show (if _ then _ else _) = _
        rw [if_neg hk]
      rw [hlen, hd]
      constructor
      · congr 1
        exact List.map_congr_left fun j hj => by rw [runC_step h r i hp (List.mem_range.1 hj)]
      · congr 1
        exact List.map_congr_left fun j hj => by rw [runC_step h r i hp (List.mem_range.1 hj)]
/-- of a history that can be, the pass cuts out the document's blocks -/
theorem cut_doc (l : List Ev) (hc : chk ss0 l 0 = (-1, 0)) : docX l l 0 = ((cutF cs0 l 0).bl.map finW).zip (cutF cs0 l 0).lk := by
  obtain ⟨h1, h2⟩ := cutF_docR l 0 cs0 ss0 CRel.start hc
  have h3 := docX_docR l _ 0 rfl (Nat.zero_le _)
  rw [List.drop_zero] at h3
  rw [h3, h1, h2]
  simp only [cs0, List.length_nil, List.range_zero, List.map_nil, List.nil_append, List.map_map]
  generalize docR l 0 = d
  induction d with
  | nil => rfl
  | cons a d ih => simp [ih]

/-- all looks differ -/
theorem cutF_nodup : ∀ (r : List Ev) (i : Nat) (c : CS), c.lk.Nodup → (∀ x ∈ c.lk, x < i) → (cutF c r i).lk.Nodup
  | [], i, c, h, _ => h
  | e :: r, i, c, h, hlt => by
    have key : (cutS c i e).lk.Nodup ∧ ∀ x ∈ (cutS c i e).lk, x < i + 1 := by
      unfold cutS
      by_cases hk : e.kind = 1
      · rw [if_pos hk]
        dsimp only
        refine ⟨?_, fun x hx => ?_⟩
        · rw [List.nodup_append]
          refine ⟨h, by simp, fun a ha b hb => ?_⟩
          have := hlt a ha
          simp at hb
          omega
        · rcases List.mem_append.1 hx with hx | hx
          · have := hlt x hx
            omega
          · simp at hx
            omega
      · rw [if_neg hk]
        split
        · exact ⟨h, fun x hx => by have := hlt x hx; omega⟩
        · dsimp only
          split
          · rename_i k _ _
            refine ⟨?_, fun x hx => ?_⟩
            · rw [List.nodup_iff_pairwise_ne, List.pairwise_iff_getElem] at h ⊢
              intro a b ha hb hab
              simp only [List.length_set] at ha hb
              simp only [List.getElem_set]
              have h1 := hlt _ (List.getElem_mem ha)
              have h2 := hlt _ (List.getElem_mem hb)
              split
              · split
                · omega
                · omega
              · split
                · omega
                · exact h a b ha hb hab
            · rcases List.mem_or_eq_of_mem_set hx with hx | hx
              · have := hlt x hx
                omega
              · omega
          · exact ⟨h, fun x hx => by have := hlt x hx; omega⟩
    exact cutF_nodup r (i + 1) (cutS c i e) key.1 key.2
end Go.Proofs.Ytjifpjfinffamaa
