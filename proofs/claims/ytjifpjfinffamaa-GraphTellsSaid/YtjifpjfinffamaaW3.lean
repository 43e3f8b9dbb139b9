/- Walk: parleykit.ApartInts over rows that are owned apart from one another: it answers true, and writes to these rows and new memory alone. -/
import Derived.Test.YtjifpjfinffamaaLib3
import Derived.Test.YtjifpjfinffamaaW1
namespace Go.Proofs.Ytjifpjfinffamaa
open Go.RowKit

/-- the mark of list j -/
def mrk (j : Nat) : Int := 1099511627776 + (j : Int)
/-- the lists' shapes -/
structure Shp where
  m : Nat
  A : Nat → Option Addr
  n : Nat → Nat
  c : Nat → Nat
def Shp.v (S : Shp) (j : Nat) : Value := .slice (S.A j) (S.n j) (S.c j)
structure Shp.Fine (S : Shp) : Prop where
  few : S.m ≤ 65536
  short : ∀ j, j < S.m → S.n j ≤ 1099511627776
  apart : ∀ i j, i < S.m → j < S.m → i ≠ j → (S.v i).ownBlock = none ∨ (S.v i).ownBlock ≠ (S.v j).ownBlock
/-- list j reads as its marks -/
def Rd (S : Shp) (wr : World) (j : Nat) : Prop := 0 < S.n j → ∃ g, S.A j = some ⟨g, 0, none⟩ ∧ g < wr.heap.size ∧ ∀ i, i < S.n j → wr.cell? ⟨g, i, none⟩ = some (.int .i64 (mrk j))
def Heads (S : Shp) (hb : Nat) (w : World) : Prop := (∃ hc, w.heap[hb]? = some (.cells hc 31 (0, 0))) ∧ ∀ j, j < S.m → w.cell? ⟨hb, j, none⟩ = some (S.v j)

/-- while the lists are written over: list k up to q -/
structure Ph1 (S : Shp) (hb base : Nat) (w wr : World) (k q : Nat) (ys : Nat → List Int) : Prop where
  head : Heads S hb wr
  own : ∀ j, j < S.m → (ys j).length = S.n j ∧ wr.ownsRow base 3 1 (S.v j) (S.n j) (ints (ys j))
  done : ∀ j, j < k → ys j = List.replicate (S.n j) (mrk j)
  part : ∀ p, p < q → (ys k)[p]? = some (mrk k)
  below : Below base w wr
  size : wr.heap.size = w.heap.size

theorem Heads.keep {S : Shp} {hb : Nat} {w w' : World} (h : Heads S hb w) (hk : w'.heap[hb]? = w.heap[hb]?) : Heads S hb w' :=
  ⟨by rw [hk]; exact h.1, fun j hj => (World.cell?_of_block (a := ⟨hb, j, none⟩) hk).trans (h.2 j hj)⟩

theorem Ph1.at_ {S : Shp} {hb base : Nat} {w wr : World} {k q : Nat} {ys : Nat → List Int} (h : Ph1 S hb base w wr k q ys) (hk : k < S.m) (hq : q < S.n k) :
    ∃ g cap y, wr.cell? ⟨hb, k, none⟩ = some (.slice (some ⟨g, 0, none⟩) (S.n k) cap) ∧ S.v k = .slice (some ⟨g, 0, none⟩) (S.n k) cap ∧ wr.cell? ⟨g, q, none⟩ = some (.int .i64 y) ∧ wr.frozen? ⟨g, q, none⟩ = false := by
  obtain ⟨hl, ho⟩ := h.own k hk
  obtain ⟨g, cap, hv, _, _⟩ := ho.form (by omega)
  have hh := h.head.2 k hk
  rw [hv] at hh ho
  refine ⟨g, cap, ((ys k)[q]'(by omega)), hh, hv, ?_, ho.frozenAt q⟩
  rw [ho.cellAt q (by omega)]
  simp [ints, List.getElem?_eq_getElem (show q < (ys k).length by omega)]

theorem Ph1.step {S : Shp} {hb base : Nat} {w wr : World} {k q : Nat} {ys : Nat → List Int} (F : S.Fine) (h : Ph1 S hb base w wr k q ys) (hk : k < S.m) (hq : q < S.n k) {g cap : Nat} (hv : S.v k = .slice (some ⟨g, 0, none⟩) (S.n k) cap) :
    Ph1 S hb base w (wr.setCell ⟨g, q, none⟩ (.int .i64 (mrk k))) k (q + 1) (fun j => if j = k then (ys k).set q (mrk k) else ys j) := by
  obtain ⟨hl, ho⟩ := h.own k hk
  have ho' := ho
  rw [hv] at ho'
  have hst := ho'.stored q (.int .i64 (mrk k))
  have hgb := (ho'.lt g rfl).1
  have hne : hb ≠ g := by
    rintro rfl
    obtain ⟨hc, hh⟩ := h.head.1
    exact own_ne_blk ho' hh (by decide) rfl
  refine ⟨h.head.keep (Below.heap_setCell _ _ _ _ hne), ?_, ?_, ?_, h.below.setCell hgb _, by rw [← h.size]; simp [World.setCell]⟩
  · intro j hj
    obtain ⟨hlj, hoj⟩ := h.own j hj
    by_cases hjk : j = k
    · subst hjk
      rw [if_pos rfl]
      refine ⟨by simpa using hlj, ?_⟩
      rw [hv]
      have := hst.1
      rw [show ints ((ys j).set q (mrk j)) = (ints (ys j)).set q (.int .i64 (mrk j)) from by simp [ints, List.map_set]]
      exact this
    · rw [if_neg hjk]
      refine ⟨hlj, hoj.kept hst.2 ?_⟩
      rcases F.apart j k hj hk hjk with h0 | h0
      · exact .inl h0
      · exact .inr (by rw [hv] at h0; exact h0)
  · intro j hj
    have : j ≠ k := by omega
    rw [if_neg this]
    exact h.done j hj
  · intro p hp
    simp only [if_true]
    by_cases hpq : p = q
    · subst hpq
      rw [List.getElem?_set_self (by omega)]
    · rw [List.getElem?_set_ne (by omega)]
      exact h.part p (by omega)

theorem Ph1.next {S : Shp} {hb base : Nat} {w wr : World} {k q : Nat} {ys : Nat → List Int} (h : Ph1 S hb base w wr k q ys) (hk : k < S.m) (hq : ¬ q < S.n k) : Ph1 S hb base w wr (k + 1) 0 ys := by
  refine { h with done := ?_, part := fun p hp => by omega }
  intro j hj
  by_cases hjk : j = k
  · subst hjk
    apply List.ext_getElem?
    intro p
    have hl := (h.own j hk).1
    by_cases hp : p < S.n j
    · rw [h.part p (by omega)]
      simp [hp]
    · rw [List.getElem?_eq_none (by omega), List.getElem?_eq_none (by simp; omega)]
  · exact h.done j (by omega)

/-- while the lists are grown: those below k1 are, those from k2 on are not yet; where the grown ones lie -/
structure Ph2 (S : Shp) (hb base s0 : Nat) (w wr : World) (k1 k2 : Nat) (G : Nat → Nat) : Prop where
  head : Heads S hb wr
  hbs : hb < s0
  lo : ∀ j, j < S.m → ∀ g, (S.v j).ownBlock = some g → g < s0
  rest : ∀ j, j < S.m → k2 ≤ j → wr.ownsRow base 3 1 (S.v j) (S.n j) (ints (List.replicate (S.n j) (mrk j)))
  old : ∀ j, j < S.m → j < k1 → Rd S wr j
  new : ∀ j, j < k1 → (∀ p, p < S.n j + 20 → wr.cell? ⟨G j, p, none⟩ = some (.int .i64 (mrk j))) ∧ (∃ cs, wr.heap[G j]? = some (.cells cs 3 (0, 0))) ∧ ((S.v j).ownBlock = some (G j) ∨ s0 ≤ G j)
  below : Below base w wr
  bs : base ≤ s0
  size : s0 ≤ wr.heap.size
def grownV (S : Shp) (G C : Nat → Nat) (j : Nat) : Value := .slice (some ⟨G j, 0, none⟩) (S.n j + 20) (C j)
theorem lt_of_heap {w : World} {g : Nat} {o : Obj} (h : w.heap[g]? = some o) : g < w.heap.size := (Array.getElem?_eq_some_iff.1 h).1

/-- what a step keeps that writes to new memory and, of what was there, to row r alone -/
theorem Ph2.keep {S : Shp} {hb base s0 : Nat} {w wr w' : World} {k1 k2 : Nat} {G : Nat → Nat} (h : Ph2 S hb base s0 w wr k1 k2 G) {r : Option Nat} (hg : wr.grownBy w' r)
    (hhb : some hb ≠ r) (hold : ∀ j, j < S.m → (j < k1 ∨ k2 ≤ j) → (S.v j).ownBlock = none ∨ (S.v j).ownBlock ≠ r) (hnew : ∀ j, j < k1 → some (G j) ≠ r) (hbase : ∀ g, r = some g → base ≤ g) : Ph2 S hb base s0 w w' k1 k2 G := by
  have hlt : hb < wr.heap.size := by
    obtain ⟨hc, hh⟩ := h.head.1
    exact lt_of_heap hh
  refine ⟨h.head.keep (hg.block hb hlt hhb), h.hbs, h.lo, ?_, ?_, ?_, h.below.grown hg (by have := h.bs; have := h.size; omega) hbase, h.bs, Nat.le_trans h.size hg.size⟩
  · intro j hj hkj
    exact (h.rest j hj hkj).kept hg (hold j hj (.inr hkj))
  · intro j hj hjk hn
    obtain ⟨b, hA, hb', hc⟩ := h.old j hj hjk hn
    refine ⟨b, hA, Nat.lt_of_lt_of_le hb' hg.size, fun i hi => ?_⟩
    have hne : some b ≠ r := by
      rcases hold j hj (.inl hjk) with h0 | h0
      · rw [Shp.v, hA] at h0; cases h0
      · rw [Shp.v, hA] at h0; exact h0
    exact (World.cell?_of_block (a := ⟨b, i, none⟩) (hg.block b hb' hne)).trans (hc i hi)
  · intro j hj
    obtain ⟨h1, ⟨cs, h2⟩, h3⟩ := h.new j hj
    have hbk := hg.block (G j) (lt_of_heap h2) (hnew j hj)
    exact ⟨fun p hp => (World.cell?_of_block (a := ⟨G j, p, none⟩) hbk).trans (h1 p hp), ⟨cs, hbk.trans h2⟩, h3⟩

/-- list k is being grown: p marks are behind it; it lies as v -/
structure Grow (S : Shp) (base sk : Nat) (wr : World) (k p : Nat) (v : Value) : Prop where
  own : wr.ownsRow base 3 1 v (S.n k + p) (ints (List.replicate (S.n k + p) (mrk k)))
  lies : v.ownBlock = (S.v k).ownBlock ∨ ∃ g, v.ownBlock = some g ∧ sk ≤ g
  read : Rd S wr k

theorem rep_snoc (n : Nat) (x : Int) : ints (List.replicate n x) ++ [.int .i64 x] = ints (List.replicate (n + 1) x) := by
  simp [ints, List.replicate_succ']

theorem Grow.step {S : Shp} {base sk : Nat} {wr w1 : World} {k p : Nat} {v : Value} (h : Grow S base sk wr k p v) (hsk : sk ≤ wr.heap.size) {g cap : Nat}
    (ho : w1.ownsRow base 3 1 (.slice (some ⟨g, 0, none⟩) (S.n k + p + 1) cap) (S.n k + p + 1) (ints (List.replicate (S.n k + p + 1) (mrk k)))) (hlt : g < w1.heap.size)
    (hg : (v.ownBlock = some g ∧ wr.grownBy w1 (some g)) ∨ (wr.heap.size ≤ g ∧ wr.grownBy w1 none)) : Grow S base sk w1 k (p + 1) (.slice (some ⟨g, 0, none⟩) (S.n k + p + 1) cap) := by
  refine ⟨ho, ?_, ?_⟩
  · rcases hg with ⟨h1, _⟩ | ⟨h1, _⟩
    · rcases h.lies with h2 | ⟨g', h2, h3⟩
      · exact .inl (h1.symm.trans h2)
      · rw [h1] at h2
        injection h2 with h2
        exact .inr ⟨g, rfl, by omega⟩
    · exact .inr ⟨g, rfl, by omega⟩
  · intro hn
    obtain ⟨b, hA, hb, hc⟩ := h.read hn
    have hsize : wr.heap.size ≤ w1.heap.size := by rcases hg with ⟨_, h2⟩ | ⟨_, h2⟩ <;> exact h2.size
    refine ⟨b, hA, by omega, fun i hi => ?_⟩
    by_cases hbg : some b = v.ownBlock ∧ wr.grownBy w1 (some g) ∧ v.ownBlock = some g
    · obtain ⟨hb1, hb2, hb3⟩ := hbg
      have hbg : b = g := by rw [hb3] at hb1; injection hb1
      subst hbg
      rw [ho.cellAt i (by omega)]
      simp [ints, show i < S.n k + p + 1 by omega]
    · have hblk : w1.heap[b]? = wr.heap[b]? := by
        rcases hg with ⟨h1, h2⟩ | ⟨_, h2⟩
        · refine h2.block b hb ?_
          intro hc
          exact hbg ⟨hc.trans h1.symm, h2, h1⟩
        · exact h2.block b hb (by simp)
      exact (World.cell?_of_block (a := ⟨b, i, none⟩) hblk).trans (hc i hi)

theorem own_own_ne {w : World} {base base' e e' size size' n n' : Nat} {v v' : Value} {xs xs' : List Value} (h : w.ownsRow base e size v n xs) (h' : w.ownsRow base' e' size' v' n' xs') (hne : e ≠ e') : v.ownBlock = none ∨ v.ownBlock ≠ v'.ownBlock := by
  rcases h'.2 with ⟨rfl, _⟩ | ⟨g', cap, cur, rfl, _, hh, _⟩
  · rcases h.2 with ⟨rfl, _⟩ | ⟨g, cap, cur, rfl, _, hh, _⟩
    · exact .inl rfl
    · exact .inr (fun hc => by cases hc)
  · exact .inr (own_ne_blk h hh hne)

theorem Ph1.to2 {S : Shp} {hb base : Nat} {w wr : World} {q : Nat} {ys : Nat → List Int} (h : Ph1 S hb base w wr S.m q ys) (hbs : base ≤ wr.heap.size) (G : Nat → Nat) : Ph2 S hb base wr.heap.size w wr 0 0 G := by
  obtain ⟨hc, hh⟩ := h.head.1
  refine ⟨h.head, lt_of_heap hh, ?_, ?_, fun j _ hj => by omega, fun j hj => by omega, h.below, hbs, Nat.le_refl _⟩
  · intro j hj g hg
    exact ((h.own j hj).2.lt g hg).2
  · intro j hj _
    have := (h.own j hj).2
    rw [h.done j hj] at this
    exact this

theorem Ph2.open_ {S : Shp} {hb base s0 : Nat} {w wr : World} {k : Nat} {G : Nat → Nat} (h : Ph2 S hb base s0 w wr k k G) (hk : k < S.m) (sk : Nat) :
    Grow S base sk wr k 0 (S.v k) ∧ Ph2 S hb base s0 w wr k (k + 1) G := by
  have ho := h.rest k hk (Nat.le_refl _)
  refine ⟨⟨ho, .inl rfl, fun hn => ?_⟩, { h with rest := fun j hj hkj => h.rest j hj (by omega) }⟩
  obtain ⟨g, cap, hv, _, hlt⟩ := ho.form hn
  have hA : S.A k = some ⟨g, 0, none⟩ := by unfold Shp.v at hv; injection hv
  refine ⟨g, hA, hlt, fun i hi => ?_⟩
  rw [hv] at ho
  rw [ho.cellAt i (by omega)]
  simp [ints, hi]

theorem Ph2.grow {S : Shp} {hb base s0 sk : Nat} {w wr w1 : World} {k p : Nat} {G : Nat → Nat} {v : Value} (F : S.Fine) (h : Ph2 S hb base s0 w wr k (k + 1) G) (hk : k < S.m) (hG : ∀ j, j < k → G j < sk) (hs : s0 ≤ sk)
    (hw : Grow S base sk wr k p v) (hg : wr.grownBy w1 v.ownBlock) : Ph2 S hb base s0 w w1 k (k + 1) G := by
  refine h.keep hg ?_ ?_ ?_ (fun g hgv => (hw.own.lt g hgv).1)
  · obtain ⟨hc, hh⟩ := h.head.1
    exact Ne.symm (own_ne_blk hw.own hh (by decide))
  · intro j hj hjk
    rcases hw.lies with hl | ⟨g, hl, hge⟩
    · rw [hl]
      exact F.apart j k hj hk (by omega)
    · right
      rw [hl]
      intro hc
      have := h.lo j hj g hc
      omega
  · intro j hj
    rcases hw.lies with hl | ⟨g, hl, hge⟩
    · rw [hl]
      intro hc
      rcases (h.new j hj).2.2 with h3 | h3
      · rcases F.apart j k (by omega) hk (by omega) with h4 | h4
        · rw [h3] at h4; cases h4
        · exact h4 (h3.trans hc)
      · have := h.lo k hk _ hc.symm
        omega
    · rw [hl]
      intro hc
      have h1 := hG j hj
      have h2 : G j = g := Option.some.inj hc
      omega

theorem Ph2.shut {S : Shp} {hb base s0 sk : Nat} {w wr : World} {k : Nat} {G : Nat → Nat} {g cap : Nat} (h : Ph2 S hb base s0 w wr k (k + 1) G) (hs : s0 ≤ sk)
    (hw : Grow S base sk wr k 20 (.slice (some ⟨g, 0, none⟩) (S.n k + 20) cap)) : Ph2 S hb base s0 w wr (k + 1) (k + 1) (fun j => if j = k then g else G j) := by
  refine { h with old := ?_, new := ?_ }
  · intro j hj hjk
    by_cases hjk' : j = k
    · subst hjk'; exact hw.read
    · exact h.old j hj (by omega)
  · intro j hj
    by_cases hjk' : j = k
    · subst hjk'
      simp only [if_true]
      refine ⟨fun p hp => ?_, ?_, ?_⟩
      · rw [hw.own.cellAt p (by omega)]
        simp [ints, hp]
      · rcases hw.own.2 with ⟨hc, _⟩ | ⟨g', cap', cur, hv, _, hh, _⟩
        · cases hc
        · injection hv with hv
          injection hv with hv
          injection hv with hv
          subst hv
          exact ⟨cur, hh⟩
      · rcases hw.lies with hl | ⟨g', hl, hge⟩
        · exact .inl hl.symm
        · right
          have : g = g' := Option.some.inj hl
          omega
    · rw [if_neg hjk']
      exact h.new j (by omega)

/-- the list of grown ones is grown -/
theorem Ph2.long {S : Shp} {hb base s0 : Nat} {w wr w1 : World} {k k2 n size : Nat} {G : Nat → Nat} {v : Value} {xs : List Value} (h : Ph2 S hb base s0 w wr k k2 G) (ho : wr.ownsRow s0 31 size v n xs) (hg : wr.grownBy w1 v.ownBlock) : Ph2 S hb base s0 w w1 k k2 G := by
  refine h.keep hg ?_ ?_ ?_ (fun g hgv => by have := (ho.lt g hgv).1; have := h.bs; omega)
  · intro hc
    have := (ho.lt hb hc.symm).1
    have := h.hbs
    omega
  · intro j hj _
    cases hj' : (S.v j).ownBlock with
    | none => exact .inl rfl
    | some g =>
      right
      intro hc
      have := h.lo j hj g hj'
      have := (ho.lt g hc.symm).1
      omega
  · intro j hj hc
    obtain ⟨_, ⟨cs, h2⟩, _⟩ := h.new j hj
    exact own_ne_blk ho h2 (by decide) hc.symm

theorem Ph2.alloc {S : Shp} {hb base s0 : Nat} {w wr : World} {k1 k2 : Nat} {G : Nat → Nat} (h : Ph2 S hb base s0 w wr k1 k2 G) (o : Obj) : Ph2 S hb base s0 w (wr.alloc o) k1 k2 G :=
  h.keep (World.grownBy_alloc wr o none) (by simp) (fun j _ _ => by cases (S.v j).ownBlock <;> simp) (by simp) (by simp)
theorem grown_list (S : Shp) (G C : Nat → Nat) (k g cap : Nat) : (List.range k).map (grownV S G C) ++ [.slice (some ⟨g, 0, none⟩) (S.n k + 20) cap] =
    (List.range (k + 1)).map (grownV S (fun j => if j = k then g else G j) (fun j => if j = k then cap else C j)) := by
  rw [List.range_succ, List.map_append]
  congr 1
  · apply List.map_congr_left
    intro j hj
    have : j ≠ k := by have := List.mem_range.1 hj; omega
    simp [grownV, this]
  · simp [grownV]
theorem ints_get {n : Nat} {x : Int} {i : Nat} (h : i < n) : (ints (List.replicate n x))[i]? = some (.int .i64 x) := by simp [ints, h]

set_option maxRecDepth 100000 in
set_option maxHeartbeats 3200000 in
theorem apart_any (S : Shp) (F : S.Fine) (hb base cm : Nat) (w : World) (hh : Heads S hb w) (hbs : base ≤ w.heap.size) (ys : Nat → List Int)
    (hown : ∀ j, j < S.m → (ys j).length = S.n j ∧ w.ownsRow base 3 1 (S.v j) (S.n j) (ints (ys j))) :
    Calls Try.prog 29 #[.slice (some ⟨hb, 0, none⟩) S.m cm] w fun e w' => e = .returned (.bool true) ∧ Below base w w' := by
  have hfew := F.few
  go_enter Try.func29, Try.ntmps29
  go_wp2
  go_loopw [3] (fun i wr => ∃ k : Nat, k ≤ S.m ∧ i = .int .i64 k ∧ ∃ ys, Ph1 S hb base w wr k 0 ys) (fun i _ => S.m - (intOf i).toNat)
  case atStart => exact ⟨0, Nat.zero_le _, rfl, ys, ⟨hh, hown, fun j hj => by omega, fun p hp => by omega, Below.refl _ _, rfl⟩⟩
  case round =>
    obtain ⟨k, hk, rfl, ys, hP⟩ := hrel
    by_cases hlt : k < S.m
    · go_wp2
      go_loopw [4] (fun i wr => ∃ q : Nat, q ≤ S.n k ∧ i = .int .i64 q ∧ ∃ ys, Ph1 S hb base w wr k q ys) (fun i _ => S.n k - (intOf i).toNat)
      case atStart => exact ⟨0, Nat.zero_le _, rfl, ys, hP⟩
      case round =>
        obtain ⟨q, hq, rfl, ys, hP⟩ := hrel
        have hshort := F.short k hlt
        by_cases hql : q < S.n k
        · obtain ⟨g, cap, y, h1, hv, h2, h3⟩ := hP.at_ hlt hql
          have HP := Lib.hid (hP.step F hlt hql hv)
          have HV := Lib.hid hv
          clear hP hv
          go_wp2
          go_roundw
          case rel => exact ⟨q + 1, by omega, by go_num, _, HP.out⟩
          case measure => simp [intOf]; omega
        · have h1 := hP.head.2 k hlt
          unfold Shp.v at h1
          have HP := Lib.hid (hP.next hlt hql)
          clear hP
          go_wp2
          go_roundw
          case rel => exact ⟨k + 1, by omega, by go_num, _, HP.out⟩
          case measure => simp [intOf]; omega
    · have hkm : k = S.m := by omega
      subst hkm
      have hsz := hP.size
      have hP2 := hP.to2 (by omega) (fun _ => 0)
      obtain ⟨s0, hs0⟩ : ∃ s0, s0 = wr.heap.size := ⟨_, rfl⟩
      rw [← hs0] at hP2
      have HS0 := Lib.hid hs0
      clear hP hsz hh hown hs0
      go_wp2
      go_loopw [5, 6] (fun v i wr => ∃ (k : Nat) (G C : Nat → Nat) (AL : Option Addr) (cl : Nat), k ≤ S.m ∧ i = .int .i64 k ∧ v = .slice AL k cl ∧ Ph2 S hb base s0 w wr k k G ∧ wr.ownsRow s0 31 1 (.slice AL k cl) k ((List.range k).map (grownV S G C))) (fun _ i _ => S.m - (intOf i).toNat)
      case atStart => exact ⟨0, fun _ => 0, fun _ => 0, none, 0, Nat.zero_le _, rfl, rfl, hP2, World.ownsRow_nil _ _ _ _⟩
      case round =>
        clear hP2
        obtain ⟨k, G, C, AL, cl, hk, rfl, rfl, hP, hL⟩ := hrel
        by_cases hlt : k < S.m
        · obtain ⟨sk, hsk⟩ : ∃ sk, sk = wr.heap.size := ⟨_, rfl⟩
          obtain ⟨hG, hP⟩ := hP.open_ hlt sk
          have hGsk : ∀ j, j < k → G j < sk := fun j hj => by
            obtain ⟨_, ⟨cs, h2⟩, _⟩ := hP.new j hj
            rw [hsk]; exact lt_of_heap h2
          have hs0k : s0 ≤ sk := by rw [hsk]; exact hP.size
          have hskr : sk ≤ wr.heap.size := by omega
          have h1 := hP.head.2 k hlt
          have HG := Lib.hid hGsk
          clear hsk hGsk
          obtain ⟨vk, hvk⟩ : ∃ vk, vk = S.v k := ⟨_, rfl⟩
          rw [← hvk] at hG h1
          have HV := Lib.hid hvk
          clear hvk
          have h1' : wr.cell? ⟨hb, k, none⟩ = some (.slice (S.A k) (S.n k) (S.c k)) := by rw [h1, HV.out]; rfl
          clear h1
          rw [HV.out] at hG
          have HV2 := HV
          clear HV hk
          go_wp2
          go_loopw [7, 8] (fun v i wr' => ∃ p : Nat, p ≤ 20 ∧ i = .int .i64 p ∧ Grow S base sk wr' k p v ∧ Ph2 S hb base s0 w wr' k (k + 1) G ∧ wr'.ownsRow s0 31 1 (.slice AL k cl) k ((List.range k).map (grownV S G C)) ∧ sk ≤ wr'.heap.size) (fun _ i _ => 20 - (intOf i).toNat)
          case atStart => exact ⟨0, Nat.zero_le _, rfl, hG, hP, hL, hskr⟩
          case round =>
            clear hG hP hL hskr h1'
            obtain ⟨p, hp, rfl, hG, hP, hL, hskr⟩ := hrel
            rename_i v _ _ wr2
            by_cases hlt2 : p < 20
            · have hshort := F.short k hlt
              go_wp2_with (at_builtin; refine halt_ ?_)
              refine Halt_.go ?_
              refine wl_append_two _ rfl (.tmp 48) (.tmp 51) 31 rfl base 3 _ 1 8 info3 Try.underlying31 rfl (by decide) _ (S.n k + p) _ rfl (hG.own.alloc _) _ 1 [.int .i64 (mrk k)] rfl (heap_alloc_new _ _) rfl (by simp [Value.oneCell']) (by omega) (by omega) (by have := hP.below.size; simp; omega) ?_
              intro g2 cap2 w2 hown2 hl2 htwo
              rw [rep_snoc] at hown2
              have hgr := grown_trans (World.grownBy_alloc _ _ _) (two_grown htwo)
              have hG2 := hG.step hskr hown2 hl2 (by
                rcases htwo with ⟨h1, h2⟩ | ⟨h1, h2⟩
                · exact .inl ⟨h1, grown_trans (World.grownBy_alloc _ _ _) h2⟩
                · exact .inr ⟨by simp at h1; omega, grown_trans (World.grownBy_alloc _ _ _) h2⟩)
              have hP2 := hP.grow F hlt HG.out hs0k hG hgr
              have hL2 := hL.kept hgr (own_own_ne hL hG.own (by decide))
              have hsk2 : sk ≤ w2.heap.size := Nat.le_trans hskr hgr.size
              clear hown2 hl2 htwo hgr hG hP hL hskr
              go_wp2
              go_roundw
              case rel => exact ⟨p + 1, by omega, by go_num, hG2, hP2, hL2, hsk2⟩
              case measure => simp [intOf]; omega
            · have hp20 : p = 20 := by omega
              subst hp20
              obtain ⟨g, cap, rfl, _, _⟩ := hG.own.form (by omega)
              have hP2 := hP.shut hs0k hG
              clear hP hG
              have hs0w := hP2.size
              go_wp2_with (at_builtin; refine halt_ ?_)
              refine Halt_.go ?_
              refine wl_append_two _ rfl (.tmp 53) (.tmp 55) 107 rfl s0 31 _ 1 24 info31 Try.underlying107 rfl (by decide) _ k _ rfl (hL.alloc _) _ 1 [.slice (some ⟨g, 0, none⟩) (S.n k + 20) cap] rfl (heap_alloc_new _ _) rfl (by simp [Value.oneCell']) (by omega) (by omega) (by simp; omega) ?_
              intro g2 cap2 w2 hown2 hl2 htwo
              rw [grown_list] at hown2
              have hP3 := (hP2.alloc _).long (hL.alloc _) (two_grown htwo)
              clear hL hP2 htwo hl2
              go_wp2
              go_roundw
              case rel => exact ⟨k + 1, _, _, _, _, by omega, by go_num, rfl, hP3, hown2⟩
              case measure => simp [intOf]; omega
        · have hkm : k = S.m := by omega
          subst hkm
          clear HS0 hlt hk
          go_wp2
          go_loop [9] (fun i => ∃ x : Nat, x ≤ S.m ∧ i = .int .i64 x) (fun i => S.m - (intOf i).toNat)
          case atStart => exact ⟨0, Nat.zero_le _, rfl⟩
          case round =>
            obtain ⟨x, hx, rfl⟩ := hrel
            by_cases hlt : x < S.m
            · obtain ⟨gL, capL, hv, _, _⟩ := hL.form (by omega)
              cases hv
              have hl1 : wr.cell? ⟨gL, x, none⟩ = some (.slice (some ⟨G x, 0, none⟩) (S.n x + 20) (C x)) := by
                rw [hL.cellAt x (by omega)]
                simp [hlt, grownV]
              have hh1 : wr.cell? ⟨hb, x, none⟩ = some (.slice (S.A x) (S.n x) (S.c x)) := hP.head.2 x hlt
              have hnew : ∀ q, q < S.n x + 20 → wr.cell? ⟨G x, q, none⟩ = some (.int .i64 (1099511627776 + (x : Int))) := (hP.new x hlt).1
              have hold : 0 < S.n x → ∃ g, S.A x = some ⟨g, 0, none⟩ ∧ g < wr.heap.size ∧ ∀ i, i < S.n x → wr.cell? ⟨g, i, none⟩ = some (.int .i64 (1099511627776 + (x : Int))) := hP.old x hlt hlt
              have hbel := hP.below
              have hshort := F.short x hlt
              clear hL hP
              obtain ⟨Ax, hAx⟩ : ∃ Ax, Ax = S.A x := ⟨_, rfl⟩
              rw [← hAx] at hh1 hold
              clear hAx
              have HN := Lib.hid hnew
              have HO := Lib.hid hold
              clear hnew hold
              go_wp2
              go_loop [10] (fun i => ∃ q : Nat, q ≤ S.n x + 20 ∧ i = .int .i64 q) (fun i => S.n x + 20 - (intOf i).toNat)
              case atStart => exact ⟨0, Nat.zero_le _, rfl⟩
              case round =>
                obtain ⟨q, hq, rfl⟩ := hrel
                by_cases hlt2 : q < S.n x + 20
                · have he := HN.out q hlt2
                  by_cases hlt3 : q < S.n x
                  · obtain ⟨g, rfl, _, hc⟩ := HO.out (by omega)
                    have he2 := hc q hlt3
                    clear hc HO HN
                    go_wp2
                    go_round
                    case rel => exact ⟨q + 1, by omega, by go_num⟩
                    case measure => simp [intOf]; omega
                  · clear HO HN
                    go_wp2
                    go_round
                    case rel => exact ⟨q + 1, by omega, by go_num⟩
                    case measure => simp [intOf]; omega
                · clear HO HN
                  go_wp2
                  go_round
                  case rel => exact ⟨x + 1, by omega, by go_num⟩
                  case measure => simp [intOf]; omega
            · have hbel := hP.below
              clear hL hP
              go_wp2
              go_ret
              exact ⟨rfl, hbel⟩
end Go.Proofs.Ytjifpjfinffamaa
