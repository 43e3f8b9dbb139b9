/- Plain mathematics of graphs given as lists of edges: walks, distances; breadth-first search and relaxation both come to the distances. No program in sight. -/
namespace Go.Proofs.Ytjifpjfinffamaa

structure E where
  f : Int
  t : Int
  k : Int

/-- all nodes of the edges are nodes -/
def Ok (n : Int) (l : List E) : Prop := ∀ e ∈ l, (0 ≤ e.f ∧ e.f < n) ∧ (0 ≤ e.t ∧ e.t < n)

/-- a way of k edges from a to b -/
def Wk (l : List E) : Nat → Int → Int → Prop
  | 0, a, b => a = b
  | k + 1, a, b => ∃ e ∈ l, e.f = a ∧ Wk l k e.t b

theorem Wk.snoc {l : List E} : ∀ {k : Nat} {a : Int} {e : E}, Wk l k a e.f → e ∈ l → Wk l (k + 1) a e.t
  | 0, _, e, h, he => ⟨e, he, h.symm, rfl⟩
  | _ + 1, _, _, ⟨e', he', hf, hw⟩, he => ⟨e', he', hf, Wk.snoc hw he⟩

theorem Wk.unsnoc {l : List E} : ∀ {k : Nat} {a b : Int}, Wk l (k + 1) a b → ∃ e ∈ l, e.t = b ∧ Wk l k a e.f
  | 0, _, _, ⟨e, he, hf, hw⟩ => ⟨e, he, hw, hf.symm⟩
  | _ + 1, _, _, ⟨e, he, hf, hw⟩ =>
    let ⟨e2, he2, ht, hw2⟩ := Wk.unsnoc hw
    ⟨e2, he2, ht, e, he, hf, hw2⟩

theorem Wk.append {l : List E} : ∀ {j k : Nat} {a b c : Int}, Wk l j a b → Wk l k b c → Wk l (j + k) a c
  | 0, k, _, _, _, h, h2 => by rw [Nat.zero_add]; cases h; exact h2
  | j + 1, k, _, _, _, ⟨e, he, hf, hw⟩, h2 => by
    rw [Nat.succ_add]
    exact ⟨e, he, hf, Wk.append hw h2⟩

/-- the number at node v -/
def at_ (d : List Int) (v : Int) : Int := d.getD v.toNat (-1)

theorem at_set {d : List Int} {v w x : Int} (hv : 0 ≤ v) (hv' : v.toNat < d.length) (hw : 0 ≤ w) : at_ (d.set v.toNat x) w = if w = v then x else at_ d w := by
  unfold at_
  by_cases h : w = v
  · subst h
    simp [List.getD, hv']
  · rw [if_neg h]
    have : v.toNat ≠ w.toNat := by omega
    simp [List.getD, this]

structure IsDist (n : Int) (l : List E) (s : Int) (d : List Int) : Prop where
  len : d.length = n.toNat
  wk : ∀ v, 0 ≤ v → v < n → at_ d v = -1 ∨ (0 ≤ at_ d v ∧ Wk l (at_ d v).toNat s v)
  src : at_ d s = 0
  shut : ∀ e ∈ l, 0 ≤ at_ d e.f → 0 ≤ at_ d e.t ∧ at_ d e.t ≤ at_ d e.f + 1

theorem IsDist.le {n : Int} {l : List E} {s : Int} {d : List Int} (h : IsDist n l s d) :
    ∀ (k : Nat) (a b : Int), 0 ≤ at_ d a → Wk l k a b → 0 ≤ at_ d b ∧ at_ d b ≤ at_ d a + k
  | 0, a, b, ha, hw => by cases hw; omega
  | k + 1, a, b, ha, ⟨e, he, hf, hw⟩ => by
    subst hf
    have h1 := h.shut e he ha
    have h2 := IsDist.le h k e.t b h1.1 hw
    omega

theorem IsDist.reach {n : Int} {l : List E} {s : Int} {d : List Int} (h : IsDist n l s d) {k : Nat} {v : Int} (hw : Wk l k s v) : 0 ≤ at_ d v ∧ at_ d v ≤ k := by
  have := h.le k s v (by rw [h.src]; omega) hw
  rw [h.src] at this
  omega

theorem at_eq_getElem {d : List Int} {i : Nat} (h : i < d.length) : at_ d (i : Int) = d[i] := by
  simp [at_, List.getD, h]

theorem ext_at {d d' : List Int} (hl : d.length = d'.length) (h : ∀ i : Nat, i < d.length → at_ d i = at_ d' i) : d = d' := by
  apply List.ext_getElem hl
  intro i h1 h2
  rw [← at_eq_getElem h1, ← at_eq_getElem h2]
  exact h i h1

theorem IsDist.unique {n : Int} {l : List E} {s : Int} {d d' : List Int} (h : IsDist n l s d) (h' : IsDist n l s d') : d = d' := by
  refine ext_at (h.len.trans h'.len.symm) fun i hi => ?_
  have hr : (i : Int) < n := by have := h.len; omega
  rcases h.wk i (by omega) hr with h1 | ⟨h1, w1⟩ <;> rcases h'.wk i (by omega) hr with h2 | ⟨h2, w2⟩
  · rw [h1, h2]
  · have := (h.reach w2).1; omega
  · have := (h'.reach w1).1; omega
  · have := (h.reach w2).2; have := (h'.reach w1).2; omega

/-- the graph turned round -/
def turn (l : List E) : List E := l.map fun e => ⟨e.t, e.f, 0⟩

theorem Wk.turned {l : List E} : ∀ {k : Nat} {a b : Int}, Wk l k a b → Wk (turn l) k b a
  | 0, _, _, h => h.symm
  | _ + 1, _, _, ⟨e, he, hf, hw⟩ => by
    subst hf
    exact Wk.snoc (e := ⟨e.t, e.f, 0⟩) hw.turned (List.mem_map.2 ⟨e, he, rfl⟩)
theorem Wk.back {l : List E} : ∀ {k : Nat} {a b : Int}, Wk (turn l) k b a → Wk l k a b
  | 0, _, _, h => h.symm
  | _ + 1, _, _, ⟨e, he, hf, hw⟩ => by
    obtain ⟨e0, he0, rfl⟩ := List.mem_map.1 he
    subst hf
    exact Wk.snoc (e := e0) hw.back he0
theorem Ok.turn {n : Int} {l : List E} (h : Ok n l) : Ok n (turn l) := by
  intro e he
  obtain ⟨e0, he0, rfl⟩ := List.mem_map.1 he
  exact ⟨(h e0 he0).2, (h e0 he0).1⟩

/-- the distance from v to s by the turned graph is the one by the graph -/
theorem back_eq {n : Int} {l : List E} {s v : Int} {b d : List Int} (hb : IsDist n (turn l) s b) (hd : IsDist n l v d) (hs : 0 ≤ s ∧ s < n) (hv : 0 ≤ v ∧ v < n) : at_ b v = at_ d s := by
  rcases hb.wk v hv.1 hv.2 with h1 | ⟨h1, w1⟩ <;> rcases hd.wk s hs.1 hs.2 with h2 | ⟨h2, w2⟩
  · rw [h1, h2]
  · have := (hb.reach w2.turned).1; omega
  · have := (hd.reach w1.back).1; omega
  · have := (hb.reach w2.turned).2; have := (hd.reach w1.back).2; omega

/-! ### sums over a list -/
def sumBy (g : Int → Nat) : List Int → Nat
  | [] => 0
  | x :: r => g x + sumBy g r
theorem sumBy_set (g : Int → Nat) (y : Int) : ∀ (d : List Int) (i : Nat) (h : i < d.length), sumBy g (d.set i y) + g d[i] = sumBy g d + g y
  | [], i, h => by simp at h
  | x :: r, 0, h => by simp [sumBy]; omega
  | x :: r, i + 1, h => by
    have := sumBy_set g y r i (by simpa using h)
    simp [sumBy]
    omega
theorem sumBy_le (g : Int → Nat) (c : Nat) (hg : ∀ x, g x ≤ c) : ∀ d : List Int, sumBy g d ≤ c * d.length
  | [] => by simp [sumBy]
  | x :: r => by
    have := sumBy_le g c hg r
    have := hg x
    simp [sumBy, Nat.mul_add]
    omega
/-- is it seen? -/
def seen1 (x : Int) : Nat := if x < 0 then 0 else 1
def unseen1 (x : Int) : Nat := if x < 0 then 1 else 0
def unseen (d : List Int) : Nat := sumBy unseen1 d

/-! ### breadth first -/
structure BInv (n : Int) (l : List E) (s : Int) (d q : List Int) : Prop where
  sin : 0 ≤ s ∧ s < n
  len : d.length = n.toNat
  wk : ∀ v, 0 ≤ v → v < n → at_ d v = -1 ∨ (0 ≤ at_ d v ∧ Wk l (at_ d v).toNat s v)
  src : at_ d s = 0
  qin : ∀ x ∈ q, (0 ≤ x ∧ x < n) ∧ 0 ≤ at_ d x
  done : ∀ e ∈ l, 0 ≤ at_ d e.f → e.f ∉ q → 0 ≤ at_ d e.t ∧ at_ d e.t ≤ at_ d e.f + 1
  mono : q.Pairwise fun x y => at_ d x ≤ at_ d y
  near : ∀ x ∈ q.head?, ∀ v, 0 ≤ v → v < n → at_ d v ≤ at_ d x + 1

/-- x has been taken off the queue; the edges of P are looked at -/
structure MInv (n : Int) (l : List E) (s x : Int) (P : List E) (d q : List Int) : Prop where
  sin : 0 ≤ s ∧ s < n
  len : d.length = n.toNat
  wk : ∀ v, 0 ≤ v → v < n → at_ d v = -1 ∨ (0 ≤ at_ d v ∧ Wk l (at_ d v).toNat s v)
  src : at_ d s = 0
  xin : (0 ≤ x ∧ x < n) ∧ 0 ≤ at_ d x
  qin : ∀ y ∈ q, (0 ≤ y ∧ y < n) ∧ at_ d x ≤ at_ d y ∧ at_ d y ≤ at_ d x + 1
  done : ∀ e ∈ l, 0 ≤ at_ d e.f → e.f ∉ q → e.f ≠ x → 0 ≤ at_ d e.t ∧ at_ d e.t ≤ at_ d e.f + 1
  here : ∀ e ∈ P, e ∈ l ∧ 0 ≤ at_ d e.t ∧ at_ d e.t ≤ at_ d x + 1
  mono : q.Pairwise fun y z => at_ d y ≤ at_ d z
  near : ∀ v, 0 ≤ v → v < n → at_ d v ≤ at_ d x + 1

theorem BInv.start {n : Int} {l : List E} {s : Int} (ok : Ok n l) (hs : 0 ≤ s ∧ s < n) : BInv n l s ((List.replicate n.toNat (-1)).set s.toNat 0) [s] := by
  have hl : s.toNat < (List.replicate n.toNat (-1 : Int)).length := by simp; omega
  have ha : ∀ v, 0 ≤ v → v < n → at_ ((List.replicate n.toNat (-1)).set s.toNat 0) v = if v = s then 0 else -1 := by
    intro v hv _
    rw [at_set hs.1 hl hv]
    split
    · rfl
    · simp [at_, List.getD, List.getElem?_replicate]
      split <;> rfl
  refine ⟨hs, by simp, ?_, by rw [ha s hs.1 hs.2, if_pos rfl], ?_, ?_, by simp, ?_⟩
  · intro v h0 h1
    rw [ha v h0 h1]
    split
    · rename_i h; right; subst h; exact ⟨by omega, rfl⟩
    · exact .inl rfl
  · intro x hx
    simp at hx
    subst hx
    rw [ha x hs.1 hs.2, if_pos rfl]
    exact ⟨hs, by omega⟩
  · intro e he hf hq
    exfalso
    simp at hq
    rw [ha e.f (ok e he).1.1 (ok e he).1.2, if_neg hq] at hf
    omega
  · intro x hx v h0 h1
    simp at hx
    subst hx
    rw [ha v h0 h1, ha s hs.1 hs.2, if_pos rfl]
    split <;> omega

theorem BInv.pop {n : Int} {l : List E} {s x : Int} {d q : List Int} (h : BInv n l s d (x :: q)) : MInv n l s x [] d q := by
  have hx := h.qin x (by simp)
  have hm := List.pairwise_cons.1 h.mono
  refine ⟨h.sin, h.len, h.wk, h.src, hx, ?_, ?_, by simp, hm.2, h.near x (by simp)⟩
  · intro y hy
    have hy' := h.qin y (by simp [hy])
    exact ⟨hy'.1, hm.1 y hy, h.near x (by simp) y hy'.1.1 hy'.1.2⟩
  · intro e he hf hq hne
    exact h.done e he hf (by simp [hq, hne])

theorem MInv.push {n : Int} {l : List E} {s x : Int} {P : List E} {d q : List Int} (ok : Ok n l) (h : MInv n l s x P d q) {e : E} (he : e ∈ l) (hf : e.f = x) (ht : at_ d e.t < 0) :
    MInv n l s x (P ++ [e]) (d.set e.t.toNat (at_ d x + 1)) (q ++ [e.t]) ∧ unseen (d.set e.t.toNat (at_ d x + 1)) + 1 = unseen d := by
  have hte := (ok e he).2
  have hlt : e.t.toNat < d.length := by rw [h.len]; omega
  have ha : ∀ v, 0 ≤ v → at_ (d.set e.t.toNat (at_ d x + 1)) v = if v = e.t then at_ d x + 1 else at_ d v := fun v hv => at_set hte.1 hlt hv
  have hxe : x ≠ e.t := by intro hc; have := h.xin.2; rw [hc] at this; omega
  have hx' : at_ (d.set e.t.toNat (at_ d x + 1)) x = at_ d x := by rw [ha x h.xin.1.1, if_neg hxe]
  have hqe : ∀ y ∈ q, y ≠ e.t := by
    intro y hy hc
    have := (h.qin y hy).2.1
    rw [hc] at this
    have := h.xin.2
    omega
  have hs0 := h.sin.1
  refine ⟨⟨h.sin, by simpa using h.len, ?_, ?_, ?_, ?_, ?_, ?_, ?_, ?_⟩, ?_⟩
  · intro v h0 h1
    rw [ha v h0]
    split
    · rename_i hv
      right
      refine ⟨by have := h.xin.2; omega, ?_⟩
      have hw := h.wk x h.xin.1.1 h.xin.1.2
      rcases hw with hw | ⟨_, hw⟩
      · have := h.xin.2; omega
      · have e1 : (at_ d x + 1).toNat = (at_ d x).toNat + 1 := by have := h.xin.2; omega
        rw [e1, hv]
        rw [← hf] at hw ⊢
        exact hw.snoc he
    · exact h.wk v h0 h1
  · rw [ha s hs0, if_neg ?_]
    · exact h.src
    · intro hc; have := h.src; rw [hc] at this; omega
  · rw [hx']; exact h.xin
  · intro y hy
    rw [hx']
    rcases List.mem_append.1 hy with hy | hy
    · have hq := h.qin y hy
      rw [ha y hq.1.1, if_neg (hqe y hy)]
      exact hq
    · simp at hy
      subst hy
      rw [ha _ hte.1, if_pos rfl]
      exact ⟨hte, by omega, by omega⟩
  · intro e' he' hf' hq hne
    have hr := ok e' he'
    have hq1 : e'.f ∉ q := fun hc => hq (List.mem_append.2 (.inl hc))
    have hq2 : e'.f ≠ e.t := fun hc => hq (List.mem_append.2 (.inr (by simp [hc])))
    rw [ha _ hr.1.1, if_neg hq2] at hf' ⊢
    have hd := h.done e' he' hf' hq1 hne
    have : e'.t ≠ e.t := by intro hc; rw [hc] at hd; omega
    rw [ha _ hr.2.1, if_neg this]
    exact hd
  · intro e' he'
    rw [hx']
    rcases List.mem_append.1 he' with he' | he'
    · have hh := h.here e' he'
      refine ⟨hh.1, ?_⟩
      rw [ha _ (ok e' hh.1).2.1]
      split
      · have := h.xin.2; omega
      · exact hh.2
    · simp at he'
      subst he'
      rw [ha _ hte.1, if_pos rfl]
      have := h.xin.2
      exact ⟨he, by omega, by omega⟩
  · rw [List.pairwise_append]
    refine ⟨?_, by simp, ?_⟩
    · refine List.Pairwise.imp_of_mem ?_ h.mono
      intro a b hab hb hle
      rw [ha a (h.qin a hab).1.1, if_neg (hqe a hab), ha b (h.qin b hb).1.1, if_neg (hqe b hb)]
      exact hle
    · intro a haq b hb
      simp at hb
      subst hb
      rw [ha a (h.qin a haq).1.1, if_neg (hqe a haq), ha _ hte.1, if_pos rfl]
      exact (h.qin a haq).2.2
  · intro v h0 h1
    rw [hx', ha v h0]
    split
    · omega
    · exact h.near v h0 h1
  · have hu := sumBy_set unseen1 (at_ d x + 1) d e.t.toNat hlt
    have e1 : d[e.t.toNat] = at_ d e.t := by simp [at_, List.getD, hlt]
    rw [e1] at hu
    unfold unseen
    have e2 : unseen1 (at_ d e.t) = 1 := by simp [unseen1, ht]
    have e3 : unseen1 (at_ d x + 1) = 0 := by have := h.xin.2; simp [unseen1]; omega
    omega

theorem MInv.skip {n : Int} {l : List E} {s x : Int} {P : List E} {d q : List Int} (ok : Ok n l) (h : MInv n l s x P d q) {e : E} (he : e ∈ l) (ht : 0 ≤ at_ d e.t) : MInv n l s x (P ++ [e]) d q := by
  refine { h with here := ?_ }
  intro e' he'
  rcases List.mem_append.1 he' with he' | he'
  · exact h.here e' he'
  · simp at he'
    subst he'
    exact ⟨he, ht, h.near _ (ok e' he).2.1 (ok e' he).2.2⟩

theorem MInv.over {n : Int} {l : List E} {s x : Int} {P : List E} {d q : List Int} (h : MInv n l s x P d q) (hP : ∀ e ∈ l, e.f = x → e ∈ P) : BInv n l s d q := by
  refine ⟨h.sin, h.len, h.wk, h.src, ?_, ?_, h.mono, ?_⟩
  · intro y hy
    have := h.qin y hy
    have := h.xin.2
    exact ⟨(h.qin y hy).1, by omega⟩
  · intro e he hf hq
    by_cases hx : e.f = x
    · have := h.here e (hP e he hx)
      rw [hx]
      exact this.2
    · exact h.done e he hf hq hx
  · intro y hy v h0 h1
    have hy' : y ∈ q := by
      cases q with
      | nil => simp at hy
      | cons a r => simp at hy; simp [hy]
    have := h.near v h0 h1
    have := (h.qin y hy').2.1
    omega

theorem BInv.fin {n : Int} {l : List E} {s : Int} {d : List Int} (h : BInv n l s d []) : IsDist n l s d :=
  ⟨h.len, h.wk, h.src, fun e he hf => h.done e he hf (by simp)⟩

/-! ### relaxation -/
def seen (d : List Int) : Nat := sumBy seen1 d
structure FInv (n : Int) (l : List E) (s : Int) (d : List Int) : Prop where
  sin : 0 ≤ s ∧ s < n
  len : d.length = n.toNat
  wk : ∀ v, 0 ≤ v → v < n → at_ d v = -1 ∨ (0 ≤ at_ d v ∧ Wk l (at_ d v).toNat s v)
  src : at_ d s = 0
  few : ∀ v, 0 ≤ v → v < n → at_ d v < seen d
/-- what a round of relaxation lowers -/
def weight (n : Int) (d : List Int) : Nat := sumBy (fun x => if x < 0 then n.toNat else x.toNat) d

theorem sumBy_replicate (g : Int → Nat) (x : Int) : ∀ n : Nat, sumBy g (List.replicate n x) = n * g x
  | 0 => by simp [sumBy]
  | n + 1 => by simp [List.replicate_succ, sumBy, sumBy_replicate g x n, Nat.add_mul]; omega

theorem seen_le (d : List Int) : seen d ≤ d.length := by
  have := sumBy_le seen1 1 (fun x => by unfold seen1; split <;> omega) d
  unfold seen
  omega
theorem getElem_at {d : List Int} {v : Int} (h : v.toNat < d.length) : d[v.toNat] = at_ d v := by simp [at_, List.getD, h]

theorem FInv.start {n : Int} {l : List E} {s : Int} (hs : 0 ≤ s ∧ s < n) : FInv n l s ((List.replicate n.toNat (-1)).set s.toNat 0) := by
  have hl : s.toNat < (List.replicate n.toNat (-1 : Int)).length := by simp; omega
  have ha : ∀ v, 0 ≤ v → v < n → at_ ((List.replicate n.toNat (-1)).set s.toNat 0) v = if v = s then 0 else -1 := by
    intro v hv _
    rw [at_set hs.1 hl hv]
    split
    · rfl
    · simp [at_, List.getD, List.getElem?_replicate]
      split <;> rfl
  have hsn : seen ((List.replicate n.toNat (-1)).set s.toNat 0) = 1 := by
    have := sumBy_set seen1 0 (List.replicate n.toNat (-1)) s.toNat hl
    rw [sumBy_replicate] at this
    simp [seen1] at this
    unfold seen
    omega
  refine ⟨hs, by simp, ?_, by rw [ha s hs.1 hs.2, if_pos rfl], ?_⟩
  · intro v h0 h1
    rw [ha v h0 h1]
    split
    · rename_i h; right; subst h; exact ⟨by omega, rfl⟩
    · exact .inl rfl
  · intro v h0 h1
    rw [ha v h0 h1, hsn]
    split <;> omega

theorem FInv.relax {n : Int} {l : List E} {s : Int} {d : List Int} (ok : Ok n l) (h : FInv n l s d) {e : E} (he : e ∈ l) (hf : 0 ≤ at_ d e.f) (ht : at_ d e.t < 0 ∨ at_ d e.f + 1 < at_ d e.t) :
    FInv n l s (d.set e.t.toNat (at_ d e.f + 1)) ∧ weight n (d.set e.t.toNat (at_ d e.f + 1)) < weight n d ∧ at_ d e.f + 1 < n := by
  have hr := ok e he
  have hlt : e.t.toNat < d.length := by rw [h.len]; omega
  have ha : ∀ v, 0 ≤ v → at_ (d.set e.t.toNat (at_ d e.f + 1)) v = if v = e.t then at_ d e.f + 1 else at_ d v := fun v hv => at_set hr.2.1 hlt hv
  have hse := sumBy_set seen1 (at_ d e.f + 1) d e.t.toNat hlt
  rw [getElem_at hlt] at hse
  have h1 : seen1 (at_ d e.f + 1) = 1 := by unfold seen1; rw [if_neg (by omega)]
  rw [h1] at hse
  have hfe := h.few e.f hr.1.1 hr.1.2
  have hseen : seen (d.set e.t.toNat (at_ d e.f + 1)) = if at_ d e.t < 0 then seen d + 1 else seen d := by
    unfold seen
    split
    · rename_i hneg
      have : seen1 (at_ d e.t) = 0 := by unfold seen1; rw [if_pos hneg]
      omega
    · rename_i hneg
      have : seen1 (at_ d e.t) = 1 := by unfold seen1; rw [if_neg hneg]
      omega
  have hall := seen_le (d.set e.t.toNat (at_ d e.f + 1))
  rw [List.length_set, h.len] at hall
  have hbound : at_ d e.f + 1 < n := by
    rcases ht with ht | ht
    · rw [hseen, if_pos ht] at hall; omega
    · have := h.few e.t hr.2.1 hr.2.2
      have h2 := seen_le d
      rw [h.len] at h2
      omega
  refine ⟨⟨h.sin, by simpa using h.len, ?_, ?_, ?_⟩, ?_, hbound⟩
  · intro v h0 h1
    rw [ha v h0]
    split
    · rename_i hv
      right
      refine ⟨by omega, ?_⟩
      rcases h.wk e.f hr.1.1 hr.1.2 with hw | ⟨_, hw⟩
      · omega
      · have e1 : (at_ d e.f + 1).toNat = (at_ d e.f).toNat + 1 := by omega
        rw [e1, hv]
        exact hw.snoc he
    · exact h.wk v h0 h1
  · rw [ha s h.sin.1, if_neg ?_]
    · exact h.src
    · intro hc
      have := h.src
      rw [hc] at this
      omega
  · intro v h0 h1
    rw [ha v h0, hseen]
    have hv := h.few v h0 h1
    have ht2 := h.few e.t hr.2.1 hr.2.2
    split <;> split <;> omega
  · have hw := sumBy_set (fun x => if x < 0 then n.toNat else x.toNat) (at_ d e.f + 1) d e.t.toNat hlt
    rw [getElem_at hlt] at hw
    unfold weight
    simp only [show ¬ (at_ d e.f + 1 < 0) from by omega, if_false] at hw
    split at hw <;> omega

theorem FInv.fin {n : Int} {l : List E} {s : Int} {d : List Int} (h : FInv n l s d) (hd : ∀ e ∈ l, 0 ≤ at_ d e.f → ¬ (at_ d e.t < 0 ∨ at_ d e.f + 1 < at_ d e.t)) : IsDist n l s d :=
  ⟨h.len, h.wk, h.src, fun e he hf => by have := hd e he hf; omega⟩
end Go.Proofs.Ytjifpjfinffamaa
