/- Texts M1 Lib Lib2 V1 V2 V3 V4 Lib3 V5a, laid together. -/
import Derived.Test.YtjifpjfinffamaaProg
import Derived.WalkKit
import Derived.WalkSpells
import Derived.WalkLawsBesides
import Derived.Lib.Hide
import Derived.Deep.AppendLies
import Derived.Deep.Draws
import Derived.KernelRfl
import Derived.WalkMore
import Derived.BigQuiet
import Derived.BigRegion
section
namespace Go.Proofs.Ytjifpjfinffamaa
structure E where
  f : Int
  t : Int
  k : Int
def Ok (n : Int) (l : List E) : Prop := ∀ e ∈ l, (0 ≤ e.f ∧ e.f < n) ∧ (0 ≤ e.t ∧ e.t < n)
def Wk (l : List E) : Nat → Int → Int → Prop
  | 0, a, b => a = b
  | k + 1, a, b => ∃ e ∈ l, e.f = a ∧ Wk l k e.t b
theorem Wk.snoc {l : List E} : ∀ {k : Nat} {a : Int} {e : E}, Wk l k a e.f → e ∈ l → Wk l (k + 1) a e.t
  | 0, _, e, h, he => ⟨e, he, h.symm, rfl⟩
  | _ + 1, _, _, ⟨e', he', hf, hw⟩, he => ⟨e', he', hf, Wk.snoc hw he⟩
theorem Wk.append {l : List E} : ∀ {j k : Nat} {a b c : Int}, Wk l j a b → Wk l k b c → Wk l (j + k) a c
  | 0, k, _, _, _, h, h2 => by rw [Nat.zero_add]; cases h; exact h2
  | j + 1, k, _, _, _, ⟨e, he, hf, hw⟩, h2 => by
    rw [Nat.succ_add]
    exact ⟨e, he, hf, Wk.append hw h2⟩
def at_ (d : List Int) (v : Int) : Int := d.getD v.toNat (-1)
theorem at_set {d : List Int} {v w x : Int} (hv : 0 ≤ v) (hv' : v.toNat < d.length) (hw : 0 ≤ w) : at_ (d.set v.toNat x) w = if w = v then x else at_ d w := by
  unfold at_
  by_cases h : w = v
  · subst h
    simp [List.getD, hv']
  · rw [if_neg h]
    have : v.toNat ≠ w.toNat := by omega
    simp [List.getD, this]
structure IsDist (n : Int) (l : List E) (s : Int) (d : List Int) : Prop where
  len : d.length = n.toNat
  wk : ∀ v, 0 ≤ v → v < n → at_ d v = -1 ∨ (0 ≤ at_ d v ∧ Wk l (at_ d v).toNat s v)
  src : at_ d s = 0
  shut : ∀ e ∈ l, 0 ≤ at_ d e.f → 0 ≤ at_ d e.t ∧ at_ d e.t ≤ at_ d e.f + 1
theorem IsDist.le {n : Int} {l : List E} {s : Int} {d : List Int} (h : IsDist n l s d) :
    ∀ (k : Nat) (a b : Int), 0 ≤ at_ d a → Wk l k a b → 0 ≤ at_ d b ∧ at_ d b ≤ at_ d a + k
  | 0, a, b, ha, hw => by cases hw; omega
  | k + 1, a, b, ha, ⟨e, he, hf, hw⟩ => by
    subst hf
    have h1 := h.shut e he ha
    have h2 := IsDist.le h k e.t b h1.1 hw
    omega
def turn (l : List E) : List E := l.map fun e => ⟨e.t, e.f, 0⟩
theorem Ok.turn {n : Int} {l : List E} (h : Ok n l) : Ok n (turn l) := by
  intro e he
  obtain ⟨e0, he0, rfl⟩ := List.mem_map.1 he
  exact ⟨(h e0 he0).2, (h e0 he0).1⟩
def sumBy (g : Int → Nat) : List Int → Nat
  | [] => 0
  | x :: r => g x + sumBy g r
theorem sumBy_set (g : Int → Nat) (y : Int) : ∀ (d : List Int) (i : Nat) (h : i < d.length), sumBy g (d.set i y) + g d[i] = sumBy g d + g y
  | [], i, h => by simp at h
  | x :: r, 0, h => by simp [sumBy]; omega
  | x :: r, i + 1, h => by
    have := sumBy_set g y r i (by simpa using h)
    simp [sumBy]
    omega
def seen1 (x : Int) : Nat := if x < 0 then 0 else 1
def unseen1 (x : Int) : Nat := if x < 0 then 1 else 0
def unseen (d : List Int) : Nat := sumBy unseen1 d
structure BInv (n : Int) (l : List E) (s : Int) (d q : List Int) : Prop where
  sin : 0 ≤ s ∧ s < n
  len : d.length = n.toNat
  wk : ∀ v, 0 ≤ v → v < n → at_ d v = -1 ∨ (0 ≤ at_ d v ∧ Wk l (at_ d v).toNat s v)
  src : at_ d s = 0
  qin : ∀ x ∈ q, (0 ≤ x ∧ x < n) ∧ 0 ≤ at_ d x
  done : ∀ e ∈ l, 0 ≤ at_ d e.f → e.f ∉ q → 0 ≤ at_ d e.t ∧ at_ d e.t ≤ at_ d e.f + 1
  mono : q.Pairwise fun x y => at_ d x ≤ at_ d y
  near : ∀ x ∈ q.head?, ∀ v, 0 ≤ v → v < n → at_ d v ≤ at_ d x + 1
structure MInv (n : Int) (l : List E) (s x : Int) (P : List E) (d q : List Int) : Prop where
  sin : 0 ≤ s ∧ s < n
  len : d.length = n.toNat
  wk : ∀ v, 0 ≤ v → v < n → at_ d v = -1 ∨ (0 ≤ at_ d v ∧ Wk l (at_ d v).toNat s v)
  src : at_ d s = 0
  xin : (0 ≤ x ∧ x < n) ∧ 0 ≤ at_ d x
  qin : ∀ y ∈ q, (0 ≤ y ∧ y < n) ∧ at_ d x ≤ at_ d y ∧ at_ d y ≤ at_ d x + 1
  done : ∀ e ∈ l, 0 ≤ at_ d e.f → e.f ∉ q → e.f ≠ x → 0 ≤ at_ d e.t ∧ at_ d e.t ≤ at_ d e.f + 1
  here : ∀ e ∈ P, e ∈ l ∧ 0 ≤ at_ d e.t ∧ at_ d e.t ≤ at_ d x + 1
  mono : q.Pairwise fun y z => at_ d y ≤ at_ d z
  near : ∀ v, 0 ≤ v → v < n → at_ d v ≤ at_ d x + 1
theorem BInv.start {n : Int} {l : List E} {s : Int} (ok : Ok n l) (hs : 0 ≤ s ∧ s < n) : BInv n l s ((List.replicate n.toNat (-1)).set s.toNat 0) [s] := by
  have hl : s.toNat < (List.replicate n.toNat (-1 : Int)).length := by simp; omega
  have ha : ∀ v, 0 ≤ v → v < n → at_ ((List.replicate n.toNat (-1)).set s.toNat 0) v = if v = s then 0 else -1 := by
    intro v hv _
    rw [at_set hs.1 hl hv]
    split
    · rfl
    · simp [at_, List.getD, List.getElem?_replicate]
      split <;> rfl
  refine ⟨hs, by simp, ?_, by rw [ha s hs.1 hs.2, if_pos rfl], ?_, ?_, by simp, ?_⟩
  · intro v h0 h1
    rw [ha v h0 h1]
    split
    · rename_i h; right; subst h; exact ⟨by omega, rfl⟩
    · exact .inl rfl
  · intro x hx
    simp at hx
    subst hx
    rw [ha x hs.1 hs.2, if_pos rfl]
    exact ⟨hs, by omega⟩
  · intro e he hf hq
    exfalso
    simp at hq
    rw [ha e.f (ok e he).1.1 (ok e he).1.2, if_neg hq] at hf
    omega
  · intro x hx v h0 h1
    simp at hx
    subst hx
    rw [ha v h0 h1, ha s hs.1 hs.2, if_pos rfl]
    split <;> omega
theorem MInv.push {n : Int} {l : List E} {s x : Int} {P : List E} {d q : List Int} (ok : Ok n l) (h : MInv n l s x P d q) {e : E} (he : e ∈ l) (hf : e.f = x) (ht : at_ d e.t < 0) :
    MInv n l s x (P ++ [e]) (d.set e.t.toNat (at_ d x + 1)) (q ++ [e.t]) ∧ unseen (d.set e.t.toNat (at_ d x + 1)) + 1 = unseen d := by
  have hte := (ok e he).2
  have hlt : e.t.toNat < d.length := by rw [h.len]; omega
  have ha : ∀ v, 0 ≤ v → at_ (d.set e.t.toNat (at_ d x + 1)) v = if v = e.t then at_ d x + 1 else at_ d v := fun v hv => at_set hte.1 hlt hv
  have hxe : x ≠ e.t := by intro hc; have := h.xin.2; rw [hc] at this; omega
  have hx' : at_ (d.set e.t.toNat (at_ d x + 1)) x = at_ d x := by rw [ha x h.xin.1.1, if_neg hxe]
  have hqe : ∀ y ∈ q, y ≠ e.t := by
    intro y hy hc
    have := (h.qin y hy).2.1
    rw [hc] at this
    have := h.xin.2
    omega
  have hs0 := h.sin.1
  refine ⟨⟨h.sin, by simpa using h.len, ?_, ?_, ?_, ?_, ?_, ?_, ?_, ?_⟩, ?_⟩
  · intro v h0 h1
    rw [ha v h0]
    split
    · rename_i hv
      right
      refine ⟨by have := h.xin.2; omega, ?_⟩
      have hw := h.wk x h.xin.1.1 h.xin.1.2
      rcases hw with hw | ⟨_, hw⟩
      · have := h.xin.2; omega
      · have e1 : (at_ d x + 1).toNat = (at_ d x).toNat + 1 := by have := h.xin.2; omega
        rw [e1, hv]
        rw [← hf] at hw ⊢
        exact hw.snoc he
    · exact h.wk v h0 h1
  · rw [ha s hs0, if_neg ?_]
    · exact h.src
    · intro hc; have := h.src; rw [hc] at this; omega
  · rw [hx']; exact h.xin
  · intro y hy
    rw [hx']
    rcases List.mem_append.1 hy with hy | hy
    · have hq := h.qin y hy
      rw [ha y hq.1.1, if_neg (hqe y hy)]
      exact hq
    · simp at hy
      subst hy
      rw [ha _ hte.1, if_pos rfl]
      exact ⟨hte, by omega, by omega⟩
  · intro e' he' hf' hq hne
    have hr := ok e' he'
    have hq1 : e'.f ∉ q := fun hc => hq (List.mem_append.2 (.inl hc))
    have hq2 : e'.f ≠ e.t := fun hc => hq (List.mem_append.2 (.inr (by simp [hc])))
    rw [ha _ hr.1.1, if_neg hq2] at hf' ⊢
    have hd := h.done e' he' hf' hq1 hne
    have : e'.t ≠ e.t := by intro hc; rw [hc] at hd; omega
    rw [ha _ hr.2.1, if_neg this]
    exact hd
  · intro e' he'
    rw [hx']
    rcases List.mem_append.1 he' with he' | he'
    · have hh := h.here e' he'
      refine ⟨hh.1, ?_⟩
      rw [ha _ (ok e' hh.1).2.1]
      split
      · have := h.xin.2; omega
      · exact hh.2
    · simp at he'
      subst he'
      rw [ha _ hte.1, if_pos rfl]
      have := h.xin.2
      exact ⟨he, by omega, by omega⟩
  · rw [List.pairwise_append]
    refine ⟨?_, by simp, ?_⟩
    · refine List.Pairwise.imp_of_mem ?_ h.mono
      intro a b hab hb hle
      rw [ha a (h.qin a hab).1.1, if_neg (hqe a hab), ha b (h.qin b hb).1.1, if_neg (hqe b hb)]
      exact hle
    · intro a haq b hb
      simp at hb
      subst hb
      rw [ha a (h.qin a haq).1.1, if_neg (hqe a haq), ha _ hte.1, if_pos rfl]
      exact (h.qin a haq).2.2
  · intro v h0 h1
    rw [hx', ha v h0]
    split
    · omega
    · exact h.near v h0 h1
  · have hu := sumBy_set unseen1 (at_ d x + 1) d e.t.toNat hlt
    have e1 : d[e.t.toNat] = at_ d e.t := by simp [at_, List.getD, hlt]
    rw [e1] at hu
    unfold unseen
    have e2 : unseen1 (at_ d e.t) = 1 := by simp [unseen1, ht]
    have e3 : unseen1 (at_ d x + 1) = 0 := by have := h.xin.2; simp [unseen1]; omega
    omega
theorem MInv.skip {n : Int} {l : List E} {s x : Int} {P : List E} {d q : List Int} (ok : Ok n l) (h : MInv n l s x P d q) {e : E} (he : e ∈ l) (ht : 0 ≤ at_ d e.t) : MInv n l s x (P ++ [e]) d q := by
  refine { h with here := ?_ }
  intro e' he'
  rcases List.mem_append.1 he' with he' | he'
  · exact h.here e' he'
  · simp at he'
    subst he'
    exact ⟨he, ht, h.near _ (ok e' he).2.1 (ok e' he).2.2⟩
theorem BInv.fin {n : Int} {l : List E} {s : Int} {d : List Int} (h : BInv n l s d []) : IsDist n l s d :=
  ⟨h.len, h.wk, h.src, fun e he hf => h.done e he hf (by simp)⟩
def seen (d : List Int) : Nat := sumBy seen1 d
structure FInv (n : Int) (l : List E) (s : Int) (d : List Int) : Prop where
  sin : 0 ≤ s ∧ s < n
  len : d.length = n.toNat
  wk : ∀ v, 0 ≤ v → v < n → at_ d v = -1 ∨ (0 ≤ at_ d v ∧ Wk l (at_ d v).toNat s v)
  src : at_ d s = 0
  few : ∀ v, 0 ≤ v → v < n → at_ d v < seen d
theorem sumBy_replicate (g : Int → Nat) (x : Int) : ∀ n : Nat, sumBy g (List.replicate n x) = n * g x
  | 0 => by simp [sumBy]
  | n + 1 => by simp [List.replicate_succ, sumBy, sumBy_replicate g x n, Nat.add_mul]; omega
theorem FInv.start {n : Int} {l : List E} {s : Int} (hs : 0 ≤ s ∧ s < n) : FInv n l s ((List.replicate n.toNat (-1)).set s.toNat 0) := by
  have hl : s.toNat < (List.replicate n.toNat (-1 : Int)).length := by simp; omega
  have ha : ∀ v, 0 ≤ v → v < n → at_ ((List.replicate n.toNat (-1)).set s.toNat 0) v = if v = s then 0 else -1 := by
    intro v hv _
    rw [at_set hs.1 hl hv]
    split
    · rfl
    · simp [at_, List.getD, List.getElem?_replicate]
      split <;> rfl
  have hsn : seen ((List.replicate n.toNat (-1)).set s.toNat 0) = 1 := by
    have := sumBy_set seen1 0 (List.replicate n.toNat (-1)) s.toNat hl
    rw [sumBy_replicate] at this
    simp [seen1] at this
    unfold seen
    omega
  refine ⟨hs, by simp, ?_, by rw [ha s hs.1 hs.2, if_pos rfl], ?_⟩
  · intro v h0 h1
    rw [ha v h0 h1]
    split
    · rename_i h; right; subst h; exact ⟨by omega, rfl⟩
    · exact .inl rfl
  · intro v h0 h1
    rw [ha v h0 h1, hsn]
    split <;> omega
theorem FInv.fin {n : Int} {l : List E} {s : Int} {d : List Int} (h : FInv n l s d) (hd : ∀ e ∈ l, 0 ≤ at_ d e.f → ¬ (at_ d e.t < 0 ∨ at_ d e.f + 1 < at_ d e.t)) : IsDist n l s d :=
  ⟨h.len, h.wk, h.src, fun e he hf => by have := hd e he hf; omega⟩
end Go.Proofs.Ytjifpjfinffamaa
end
section
namespace Go.Proofs.Ytjifpjfinffamaa
open Go.RowKit
def RK (kd : IntKind) (w : World) (B : Nat) (A : Option Addr) (xs : List Int) : Prop :=
  0 < xs.length → ∃ b off, A = some ⟨b, off, none⟩ ∧ b < B ∧ ∀ i (h : i < xs.length), w.cell? ⟨b, off + i, none⟩ = some (.int kd xs[i])
def RE (w : World) (B : Nat) (A : Option Addr) (l : List E) : Prop :=
  0 < l.length → ∃ b off, A = some ⟨b, off, none⟩ ∧ b < B ∧ ∀ i (h : i < l.length),
    w.cell? ⟨b, off + i * 3, none⟩ = some (.int .i64 l[i].f) ∧ w.cell? ⟨b, off + i * 3 + 1, none⟩ = some (.int .i64 l[i].t) ∧ w.cell? ⟨b, off + i * 3 + 2, none⟩ = some (.int .i64 l[i].k)
def RR (w : World) (B : Nat) (A : Option Addr) (rows : List (List Int)) : Prop :=
  0 < rows.length → ∃ b off, A = some ⟨b, off, none⟩ ∧ b < B ∧ ∀ i (h : i < rows.length), ∃ Ai ci, w.cell? ⟨b, off + i, none⟩ = some (.slice Ai rows[i].length ci) ∧ RK .i64 w B Ai rows[i]
section
variable {w w' : World} {B B' : Nat} {A : Option Addr} {kd : IntKind}
theorem RK.keep {xs : List Int} (h : RK kd w B A xs) (hk : ∀ p : Addr, p.block < B → w'.cell? p = w.cell? p) : RK kd w' B A xs := fun hn => by
  obtain ⟨b, off, e, hb, hc⟩ := h hn
  exact ⟨b, off, e, hb, fun i hi => (hk _ hb).trans (hc i hi)⟩
theorem RK.more {xs : List Int} (h : RK kd w B A xs) (hB : B ≤ B') : RK kd w B' A xs := fun hn => by
  obtain ⟨b, off, e, hb, hc⟩ := h hn
  exact ⟨b, off, e, by omega, hc⟩
theorem RK.below {xs : List Int} (h : RK kd w B A xs) (hb : Below B w w') : RK kd w' B A xs := h.keep fun _ hp => hb.cell hp
theorem RE.keep {l : List E} (h : RE w B A l) (hk : ∀ p : Addr, p.block < B → w'.cell? p = w.cell? p) : RE w' B A l := fun hn => by
  obtain ⟨b, off, e, hb, hc⟩ := h hn
  exact ⟨b, off, e, hb, fun i hi => ⟨(hk ⟨b, off + i * 3, none⟩ hb).trans (hc i hi).1, (hk ⟨b, off + i * 3 + 1, none⟩ hb).trans (hc i hi).2.1, (hk ⟨b, off + i * 3 + 2, none⟩ hb).trans (hc i hi).2.2⟩⟩
theorem RE.more {l : List E} (h : RE w B A l) (hB : B ≤ B') : RE w B' A l := fun hn => by
  obtain ⟨b, off, e, hb, hc⟩ := h hn
  exact ⟨b, off, e, by omega, hc⟩
theorem RE.below {l : List E} (h : RE w B A l) (hb : Below B w w') : RE w' B A l := h.keep fun _ hp => hb.cell hp
theorem RR.keep {rows : List (List Int)} (h : RR w B A rows) (hk : ∀ p : Addr, p.block < B → w'.cell? p = w.cell? p) : RR w' B A rows := fun hn => by
  obtain ⟨b, off, e, hb, hc⟩ := h hn
  refine ⟨b, off, e, hb, fun i hi => ?_⟩
  obtain ⟨Ai, ci, h1, h2⟩ := hc i hi
  exact ⟨Ai, ci, (hk _ hb).trans h1, h2.keep hk⟩
theorem RR.more {rows : List (List Int)} (h : RR w B A rows) (hB : B ≤ B') : RR w B' A rows := fun hn => by
  obtain ⟨b, off, e, hb, hc⟩ := h hn
  refine ⟨b, off, e, by omega, fun i hi => ?_⟩
  obtain ⟨Ai, ci, h1, h2⟩ := hc i hi
  exact ⟨Ai, ci, h1, h2.more hB⟩
theorem RR.below {rows : List (List Int)} (h : RR w B A rows) (hb : Below B w w') : RR w' B A rows := h.keep fun _ hp => hb.cell hp
theorem RK.at_ {xs : List Int} (h : RK kd w B A xs) (hb : Below B w w') {k : Nat} (hk : k < xs.length) :
    ∃ b off x, A = some ⟨b, off, none⟩ ∧ b < B ∧ Hid (xs[k]? = some x) ∧ w'.cell? ⟨b, off + k, none⟩ = some (.int kd x) := by
  obtain ⟨b, off, e, hB, hc⟩ := h (by omega)
  exact ⟨b, off, xs[k], e, hB, List.getElem?_eq_getElem hk, (hb.cell (p := ⟨b, off + k, none⟩) hB).trans (hc k hk)⟩
theorem RE.at_ {l : List E} (h : RE w B A l) (hb : Below B w w') {k : Nat} (hk : k < l.length) :
    ∃ b off f t kk, A = some ⟨b, off, none⟩ ∧ b < B ∧ Hid (l[k]? = some ⟨f, t, kk⟩) ∧ w'.cell? ⟨b, off + k * 3, none⟩ = some (.int .i64 f) ∧ w'.cell? ⟨b, off + k * 3 + 1, none⟩ = some (.int .i64 t) ∧ w'.cell? ⟨b, off + k * 3 + 2, none⟩ = some (.int .i64 kk) := by
  obtain ⟨b, off, hA, hB, hc⟩ := h (by omega)
  obtain ⟨h1, h2, h3⟩ := hc k hk
  refine ⟨b, off, l[k].f, l[k].t, l[k].k, hA, hB, (by show l[k]? = _; rw [List.getElem?_eq_getElem hk]), ?_, ?_, ?_⟩
  · exact (hb.cell (p := ⟨b, off + k * 3, none⟩) hB).trans h1
  · exact (hb.cell (p := ⟨b, off + k * 3 + 1, none⟩) hB).trans h2
  · exact (hb.cell (p := ⟨b, off + k * 3 + 2, none⟩) hB).trans h3
end
theorem bdrewN {B : Nat} {a w : World} (h : Below B a w) (n : Nat) : Below B a (w.drewN n) := ⟨h.os, h.tape, h.output, h.size, h.block⟩
theorem RK.of_own {kd : IntKind} {w : World} {base e : Nat} {A : Option Addr} {c : Nat} {xs : List Int} (h : w.ownsRow base e 1 (.slice A xs.length c) xs.length (xs.map (Value.int kd))) : RK kd w w.heap.size A xs := by
  intro hn
  obtain ⟨g, cap, hv, _, hlt⟩ := h.form hn
  have hA : A = some ⟨g, 0, none⟩ := by injection hv
  subst hA
  refine ⟨g, 0, rfl, hlt, fun i hi => ?_⟩
  have := h.cells (g := g) rfl i (.int kd xs[i]) (by simp [hi])
  rw [Addr.add_lit] at this
  simpa using this
end Go.Proofs.Ytjifpjfinffamaa
end
section
namespace Go.Proofs.Ytjifpjfinffamaa
open Go.RowKit
theorem info3 : (Try.prog.info? 3).map (fun i => (i.zero, i.size, i.bytes)) = some (some (.int .i64 0), 1, 8) := by kernel_rfl
theorem info4 : (Try.prog.info? 4).map (fun i => (i.zero, i.size, i.bytes)) = some (some (.bool false), 1, 1) := by kernel_rfl
def Halt_ (p : Prop) : Prop := p
theorem halt_ {p : Prop} (h : Halt_ p) : p := h
theorem Halt_.go {p : Prop} (h : p) : Halt_ p := h
section
variable {P : Program} (w : World)
theorem wl_append1 {ops : Array Oper} {rest : List Oper} {o : Oper} {a : Act} {Q : Exit → Act → World → Prop} (hgd : o.guard = none) (s x : Operand) (t : TypeId)
    (ho : o.op = .call { callee := .builtin .append, args := #[s, x], argTypes := #[t, t] })
    (base E : Nat) (z : Value) (size bytes : Nat) (hinfo : (P.info? E).map (fun i => (i.zero, i.size, i.bytes)) = some (some z, size, bytes)) (ht : P.underlying t = some (.slice E))
    (hzs : z.cells.size = size) (hsz : 0 < size)
    (v : Value) (n : Nat) (xs : List Value) (hs : a.eval s = v) (hown : w.ownsRow base E size v n xs)
    (b c1 : Nat) (news : List Value) (hx : a.eval x = .slice (some ⟨b, 0, none⟩) 1 c1) (hb : w.heap[b]? = some (.cells news.toArray E (0, 0))) (hl : news.length = size) (h1 : ∀ u ∈ news, u.oneCell' = true)
    (hbytes : (n + 1) * bytes ≤ 140737488355328) (h63 : n + 1 ≤ 140737488355328) (hbase : base ≤ w.heap.size) (H : Nat) (hH : w.heap.size = H)
    (h : ∀ g cap w', w'.ownsRow base E size (.slice (some ⟨g, 0, none⟩) (n + 1) cap) (n + 1) (xs ++ news) → w.grownBy w' v.ownBlock → (v.ownBlock = some g ∨ g = H) → g < w'.heap.size → wpList P ops Q rest (a.put o.dst (.slice (some ⟨g, 0, none⟩) (n + 1) cap)) w') :
    wpList P ops Q (o :: rest) a w := by
  obtain ⟨i, hi, hz, hsize, hby⟩ := info_parts hinfo
  refine wpList_append_lies w hgd s x t ho base E i z size bytes ht hi hz hsize hby hzs hsz v n xs hs hown ⟨b, 0, none⟩ 1 c1 news hx (by omega) ?_ h1 (by omega) (by unfold maxLen; omega) hbytes hbase H hH h
  intro j u hu
  rw [Addr.add_lit, Nat.zero_add, cell_of_row w b j news.toArray E (0, 0) hb]
  simpa using hu
theorem run_append_src (t ty : TypeId) (base E : Nat) (z : Value) (size bytes : Nat) (hinfo : (P.info? E).map (fun i => (i.zero, i.size, i.bytes)) = some (some z, size, bytes)) (ht : P.underlying t = some (.slice E))
    (hzs : z.cells.size = size) (hsz : 0 < size) (v : Value) (n : Nat) (xs : List Value) (hown : w.ownsRow base E size v n xs)
    (A : Option Addr) (m c : Nat) (news : List Value) (hl : news.length = m * size) (hnone : A = none → m = 0) (hcells : ∀ ad, A = some ad → ∀ j u, news[j]? = some u → w.cell? (ad.add j) = some u)
    (h1 : ∀ u ∈ news, u.oneCell' = true) (hbytes : (n + m) * bytes ≤ 140737488355328) (h63 : n + m ≤ 140737488355328) (hbase : base ≤ w.heap.size) :
    ∃ v' w', (Builtin.append_ #[t, t] ty #[v, .slice A m c]).run P w = .ok v' w' ∧ w'.ownsRow base E size v' (n + m) (xs ++ news) ∧ w.grownBy w' v.ownBlock ∧
      (v' = .slice none 0 0 → v = .slice none 0 0 ∧ m = 0) := by
  obtain ⟨i, hi, hz, hsize, hby⟩ := info_parts hinfo
  cases A with
  | none =>
    have hm := hnone rfl
    subst hm
    have hn : news = [] := List.eq_nil_of_length_eq_zero (by simpa using hl)
    subst hn
    refine ⟨v, w, ?_, by simpa using hown, World.grownBy.refl w _, fun h => ⟨h, rfl⟩⟩
    rcases hown.2 with ⟨rfl, rfl⟩ | ⟨g, cap, cur, rfl, _, _, hnc, _⟩
    · simp [Builtin.append_, run_underlying ht, sizeOf, typeInfo, hi, Builtin.lenOf, Builtin.firstCells]
    · simp [Builtin.append_, run_underlying ht, sizeOf, typeInfo, hi, Builtin.lenOf, Builtin.firstCells, hnc, storeCells]
  | some ad =>
    obtain ⟨v', w', hr, h2, h3, h4⟩ := run_append_own (P := P) w base t ty E i z size bytes ht hi hz hsize hby hzs hsz v n xs hown ad m c news hl (hcells ad rfl) h1 (by unfold maxLen; omega) hbytes hbase
    exact ⟨v', w', hr, h2, h3, h4.1⟩
theorem wl_append_src {ops : Array Oper} {rest : List Oper} {o : Oper} {a : Act} {Q : Exit → Act → World → Prop} (hgd : o.guard = none) (s x : Operand) (t : TypeId)
    (ho : o.op = .call { callee := .builtin .append, args := #[s, x], argTypes := #[t, t] })
    (base E : Nat) (z : Value) (size bytes : Nat) (hinfo : (P.info? E).map (fun i => (i.zero, i.size, i.bytes)) = some (some z, size, bytes)) (ht : P.underlying t = some (.slice E))
    (hzs : z.cells.size = size) (hsz : 0 < size) (v : Value) (n : Nat) (xs : List Value) (hs : a.eval s = v) (hown : w.ownsRow base E size v n xs)
    (A : Option Addr) (m c : Nat) (news : List Value) (hx : a.eval x = .slice A m c) (hl : news.length = m * size) (hnone : A = none → m = 0) (hcells : ∀ ad, A = some ad → ∀ j u, news[j]? = some u → w.cell? (ad.add j) = some u)
    (h1 : ∀ u ∈ news, u.oneCell' = true) (hbytes : (n + m) * bytes ≤ 140737488355328) (h63 : n + m ≤ 140737488355328) (hbase : base ≤ w.heap.size)
    (h : ∀ A' c' w', w'.ownsRow base E size (.slice A' (n + m) c') (n + m) (xs ++ news) → w.grownBy w' v.ownBlock → (A' = none → v = .slice none 0 0) → wpList P ops Q rest (a.put o.dst (.slice A' (n + m) c')) w') :
    wpList P ops Q (o :: rest) a w := by
  obtain ⟨v', w', hr, h2, h3, h4⟩ := run_append_src (P := P) w t o.type base E z size bytes hinfo ht hzs hsz v n xs hown A m c news hl hnone hcells h1 hbytes h63 hbase
  refine wpList_plain hgd fun K hK => ?_
  unfold Oper.wp execOp
  simp only [ho, resolve, invoke, builtin, Sem.run_bind, Sem.run_pure, Result.andThen_ok, List.map_toArray, List.map_cons, List.map_nil, hs, hx, hr]
  rcases h2.2 with ⟨rfl, h0⟩ | ⟨g, cap, cur, rfl, hrest⟩
  · have := h none 0 w'
    rw [h0] at this h2
    exact hK _ _ (this h2 h3 fun _ => (h4 rfl).1)
  · exact hK _ _ (h _ _ w' h2 h3 (fun hc => by cases hc))
end
theorem own_cap {w : World} {base e size n c : Nat} {A : Option Addr} {xs : List Value} (h : w.ownsRow base e size (.slice A n c) n xs) : n ≤ c ∧ c ≤ maxLen := by
  rcases h.2 with ⟨hn, _⟩ | ⟨g', cap', cur, hv, _, _, hnc, hcm, _⟩
  · injection hn with _ h2 h3
    subst h2 h3
    exact ⟨Nat.le_refl _, Nat.zero_le _⟩
  · injection hv with _ _ h3
    subst h3
    exact ⟨hnc, hcm⟩
theorem own_base {w : World} {base base' e size n : Nat} {v : Value} {xs : List Value} (h : w.ownsRow base e size v n xs) (hb : base' ≤ base) : w.ownsRow base' e size v n xs := by
  refine ⟨h.1, ?_⟩
  rcases h.2 with hn | ⟨g, cap, cur, hv, hg, rest⟩
  · exact .inl hn
  · exact .inr ⟨g, cap, cur, hv, by omega, rest⟩
theorem cells_of_new {w : World} {b : Nat} {news : List Value} {E : Nat} {fr : Nat × Nat} (hb : w.heap[b]? = some (.cells news.toArray E fr)) :
    ∀ ad, (some ⟨b, 0, none⟩ : Option Addr) = some ad → ∀ j u, news[j]? = some u → w.cell? (ad.add j) = some u := by
  intro ad h j u hu
  injection h with h
  subst h
  rw [Addr.add_lit, Nat.zero_add, cell_of_row w b j news.toArray E fr hb]
  simpa using hu
def ecells (e : E) : List Value := [.int .i64 e.f, .int .i64 e.t, .int .i64 e.k]
theorem ecells_len (l : List E) : (l.flatMap ecells).length = l.length * 3 := by
  induction l with
  | nil => rfl
  | cons e r ih => simp [List.flatMap_cons, ih, ecells]; omega
theorem ecells_get : ∀ (l : List E) (i : Nat) (h : i < l.length), (l.flatMap ecells)[i * 3]? = some (.int .i64 l[i].f) ∧ (l.flatMap ecells)[i * 3 + 1]? = some (.int .i64 l[i].t) ∧ (l.flatMap ecells)[i * 3 + 2]? = some (.int .i64 l[i].k)
  | [], i, h => by simp at h
  | e :: r, 0, h => by simp [List.flatMap_cons, ecells]
  | e :: r, i + 1, h => by
    have hi : i < r.length := by simpa using h
    have := ecells_get r i hi
    have e1 : (i + 1) * 3 = i * 3 + 3 := by omega
    have l3 : (ecells e).length = 3 := rfl
    rw [List.flatMap_cons, e1]
    refine ⟨?_, ?_, ?_⟩ <;> rw [List.getElem?_append_right (by rw [l3]; omega), l3]
    · simpa using this.1
    · rw [show i * 3 + 3 + 1 - 3 = i * 3 + 1 from by omega]; simpa using this.2.1
    · rw [show i * 3 + 3 + 2 - 3 = i * 3 + 2 from by omega]; simpa using this.2.2
theorem RE.cells {w : World} {B : Nat} {A : Option Addr} {l : List E} (h : RE w B A l) : ∀ ad, A = some ad → ∀ j u, (l.flatMap ecells)[j]? = some u → w.cell? (ad.add j) = some u := by
  intro ad hA j u hu
  have hj : j < l.length * 3 := by
    have := (List.getElem?_eq_some_iff.1 hu).1
    rwa [ecells_len] at this
  obtain ⟨b, off, e, hb, hc⟩ := h (by omega)
  rw [hA] at e
  injection e with e
  subst e
  rw [Addr.add_lit]
  have hi : j / 3 < l.length := by omega
  have hc' := hc (j / 3) hi
  have hg := ecells_get l (j / 3) hi
  have h3 : j % 3 = 0 ∨ j % 3 = 1 ∨ j % 3 = 2 := by omega
  rcases h3 with h3 | h3 | h3
  · have ej : j = j / 3 * 3 := by omega
    rw [ej] at hu ⊢
    rw [hg.1] at hu
    exact hc'.1.trans hu
  · have ej : j = j / 3 * 3 + 1 := by omega
    rw [ej] at hu ⊢
    rw [hg.2.1] at hu
    exact hc'.2.1.trans hu
  · have ej : j = j / 3 * 3 + 2 := by omega
    rw [ej] at hu ⊢
    rw [hg.2.2] at hu
    exact hc'.2.2.trans hu
theorem RE.none_ {w : World} {B : Nat} {A : Option Addr} {l : List E} (h : RE w B A l) (hA : A = none) : l.length = 0 := by
  rcases Nat.eq_zero_or_pos l.length with h0 | h0
  · exact h0
  · obtain ⟨b, off, e, _⟩ := h h0
    rw [hA] at e; cases e
theorem RK.cells {kd : IntKind} {w : World} {B : Nat} {A : Option Addr} {xs : List Int} (h : RK kd w B A xs) : ∀ ad, A = some ad → ∀ j u, (xs.map (Value.int kd))[j]? = some u → w.cell? (ad.add j) = some u := by
  intro ad hA j u hu
  have hj : j < xs.length := by
    have := (List.getElem?_eq_some_iff.1 hu).1
    rwa [List.length_map] at this
  obtain ⟨b, off, e, hb, hc⟩ := h (by omega)
  rw [hA] at e
  injection e with e
  subst e
  rw [Addr.add_lit]
  rw [List.getElem?_map, List.getElem?_eq_getElem hj] at hu
  exact (hc j hj).trans hu
theorem RK.none_ {kd : IntKind} {w : World} {B : Nat} {A : Option Addr} {xs : List Int} (h : RK kd w B A xs) (hA : A = none) : xs.length = 0 := by
  rcases Nat.eq_zero_or_pos xs.length with h0 | h0
  · exact h0
  · obtain ⟨b, off, e, _⟩ := h h0
    rw [hA] at e; cases e
theorem RE.of_own {w : World} {base n : Nat} {A : Option Addr} {c : Nat} {l : List E} {more : List Value} (h : w.ownsRow base 69 3 (.slice A n c) n (l.flatMap ecells ++ more)) : RE w w.heap.size A l := by
  intro hn
  have hlen := h.1
  rw [List.length_append, ecells_len] at hlen
  obtain ⟨g, cap, hv, _, hlt⟩ := h.form (by omega)
  have hA : A = some ⟨g, 0, none⟩ := by injection hv
  subst hA
  refine ⟨g, 0, rfl, hlt, fun i hi => ?_⟩
  have hg := ecells_get l i hi
  have hcell : ∀ j u, (l.flatMap ecells)[j]? = some u → w.cell? ⟨g, 0 + j, none⟩ = some u := by
    intro j u hu
    have := h.cells (g := g) rfl j u (by rw [List.getElem?_append_left (List.getElem?_eq_some_iff.1 hu).1]; exact hu)
    rw [Addr.add_lit] at this
    exact this
  exact ⟨hcell _ _ hg.1, hcell _ _ hg.2.1, hcell _ _ hg.2.2⟩
end Go.Proofs.Ytjifpjfinffamaa
end
section
namespace Go.Proofs.Ytjifpjfinffamaa
open Go.RowKit
structure Ev where
  th : Int
  kind : Int
  addr : Int
  word : Int
  own : Bool
  err : Int
deriving DecidableEq
def Ev.Wd (e : Ev) : Prop := (0 ≤ e.addr ∧ e.addr < 18446744073709551616) ∧ (0 ≤ e.word ∧ e.word < 18446744073709551616)
def evs (e : Ev) : List Value := [.int .i64 e.th, .int .i64 e.kind, .int .u64 e.addr, .int .u64 e.word, .bool e.own, .int .i64 e.err]
abbrev evV (e : Ev) : Value := .agg #[.int .i64 e.th, .int .i64 e.kind, .int .u64 e.addr, .int .u64 e.word, .bool e.own, .int .i64 e.err]
def PairK (k : Int) : Prop := k = 2 ∨ k = 3 ∨ k = 10 ∨ k = 11
def SingleK (k : Int) : Prop := k = 1 ∨ k = 4 ∨ k = 6
instance (k : Int) : Decidable (PairK k) := inferInstanceAs (Decidable (k = 2 ∨ k = 3 ∨ k = 10 ∨ k = 11))
instance (k : Int) : Decidable (SingleK k) := inferInstanceAs (Decidable (k = 1 ∨ k = 4 ∨ k = 6))
def Rest (e : Ev) : Prop :=
  (PairK e.kind ∨ e.addr = 0) ∧ (PairK e.kind ∨ SingleK e.kind ∨ e.word = 0) ∧ (e.kind = 2 ∨ e.own = false) ∧ (e.kind ≠ 1 ∧ e.kind ≠ 4 ∨ e.word % 2 = 0) ∧ (e.kind = 9 ∧ (e.err = 4 ∨ e.err = 5 ∨ e.err = 6) ∨ e.kind ≠ 9 ∧ e.err = 0)
def Fm (e : Ev) : Prop := (0 ≤ e.th ∧ e.th < 8) ∧ (1 ≤ e.kind ∧ e.kind ≤ 12) ∧ Rest e
instance (e : Ev) : Decidable (Rest e) := inferInstanceAs (Decidable (_ ∧ _ ∧ _ ∧ _ ∧ _))
instance (e : Ev) : Decidable (Fm e) := inferInstanceAs (Decidable (_ ∧ _ ∧ _))
def nextI (how kind err : Int) : Int :=
  if how = 0 then (if kind = 1 then 1 else if kind = 10 ∨ kind = 11 then 0 else if kind = 12 then 3 else if kind = 9 ∧ err = 4 then 3 else -1)
  else if how = 1 then (if kind = 2 ∨ kind = 3 ∨ kind = 4 then 1 else if kind = 5 then 2 else if kind = 6 ∨ kind = 7 ∨ kind = 8 then 0 else if kind = 9 then 3 else -1)
  else if how = 2 then (if kind = 6 then 0 else -1)
  else -1
structure TS where
  how : Int
  snap : Int
  wr : List (Int × Int)
structure SS where
  t : Nat → TS
  num : Int
def wrt (l : List (Int × Int)) (a : Int) : Option Int := (l.reverse.find? fun p => p.1 == a).map (·.2)
def two (x : Int) : Int := IntKind.u64.wrap (2 * x)
def lockedB (s : SS) (th : Nat) : Bool := (List.range 8).any fun i => decide (i ≠ th) && decide ((s.t i).how = 2)
def LockK (k : Int) : Prop := k = 1 ∨ k = 4 ∨ k = 5
instance (k : Int) : Decidable (LockK k) := inferInstanceAs (Decidable (k = 1 ∨ k = 4 ∨ k = 5))
def numB (s : SS) (e : Ev) : Bool :=
  if e.kind = 1 then e.word == two s.num
  else if e.kind = 4 then e.word == two s.num && decide ((s.t e.th.toNat).snap < e.word)
  else if e.kind = 5 then (s.t e.th.toNat).snap == two s.num
  else if e.kind = 6 then (if (s.t e.th.toNat).how = 2 then e.word == IntKind.u64.wrap (s.num + 1) else e.word == (s.t e.th.toNat).snap / 2)
  else true
def ownB (s : SS) (e : Ev) : Bool :=
  if e.kind = 2 then (match wrt (s.t e.th.toNat).wr e.addr with | none => !e.own | some x => e.own && x == e.word)
  else if e.kind = 5 then decide (0 < (s.t e.th.toNat).wr.length)
  else if e.kind = 6 then decide ((s.t e.th.toNat).how = 2) || decide ((s.t e.th.toNat).wr.length = 0)
  else true
def putE (s : SS) (e : Ev) : Int :=
  if ¬ Fm e then 201
  else if nextI (s.t e.th.toNat).how e.kind e.err < 0 then 230
  else if LockK e.kind ∧ lockedB s e.th.toNat = true then 231
  else if numB s e = false then 232
  else if ownB s e = false then 233
  else 0
def advT (t : TS) (e : Ev) : TS :=
  ⟨nextI t.how e.kind e.err, if e.kind = 1 ∨ e.kind = 4 then e.word else t.snap, if e.kind = 1 then [] else if e.kind = 3 then t.wr ++ [(e.addr, e.word)] else t.wr⟩
def adv (s : SS) (e : Ev) : SS :=
  ⟨fun i => if i = e.th.toNat then advT (s.t i) e else s.t i, if e.kind = 6 ∧ (s.t e.th.toNat).how = 2 then e.word else s.num⟩
def ss0 : SS := ⟨fun _ => ⟨0, 0, []⟩, 0⟩
def chk : SS → List Ev → Nat → Int × Int
  | _, [], _ => (-1, 0)
  | s, e :: h, i => if putE s e = 0 then chk (adv s e) h (i + 1) else ((i : Int), putE s e)
theorem wrt_snoc (l : List (Int × Int)) (a b c : Int) : wrt (l ++ [(a, b)]) c = if a = c then some b else wrt l c := by
  simp only [wrt, List.reverse_append, List.reverse_cons, List.reverse_nil, List.nil_append, List.singleton_append, List.find?_cons]
  by_cases h : a = c
  · simp [h]
  · have h2 : (a == c) = false := by simpa using h
    rw [h2, if_neg h]
def EvR (w : World) (B : Nat) (A : Option Addr) (h : List Ev) : Prop :=
  (∀ e ∈ h, e.Wd) ∧ (0 < h.length → ∃ b off, A = some ⟨b, off, none⟩ ∧ b < B ∧ ∀ i (hi : i < h.length),
    w.cell? ⟨b, off + i * 6, none⟩ = some (.int .i64 h[i].th) ∧ w.cell? ⟨b, off + i * 6 + 1, none⟩ = some (.int .i64 h[i].kind) ∧ w.cell? ⟨b, off + i * 6 + 2, none⟩ = some (.int .u64 h[i].addr) ∧
    w.cell? ⟨b, off + i * 6 + 3, none⟩ = some (.int .u64 h[i].word) ∧ w.cell? ⟨b, off + i * 6 + 4, none⟩ = some (.bool h[i].own) ∧ w.cell? ⟨b, off + i * 6 + 5, none⟩ = some (.int .i64 h[i].err))
section
variable {w w' : World} {B B' : Nat} {A : Option Addr} {h : List Ev}
theorem EvR.keep (hr : EvR w B A h) (hk : ∀ p : Addr, p.block < B → w'.cell? p = w.cell? p) : EvR w' B A h := ⟨hr.1, fun hn => by
  obtain ⟨b, off, e, hb, hc⟩ := hr.2 hn
  refine ⟨b, off, e, hb, fun i hi => ?_⟩
  obtain ⟨h0, h1, h2, h3, h4, h5⟩ := hc i hi
  exact ⟨(hk ⟨b, off + i * 6, none⟩ hb).trans h0, (hk ⟨b, off + i * 6 + 1, none⟩ hb).trans h1, (hk ⟨b, off + i * 6 + 2, none⟩ hb).trans h2, (hk ⟨b, off + i * 6 + 3, none⟩ hb).trans h3, (hk ⟨b, off + i * 6 + 4, none⟩ hb).trans h4, (hk ⟨b, off + i * 6 + 5, none⟩ hb).trans h5⟩⟩
theorem EvR.more (hr : EvR w B A h) (hB : B ≤ B') : EvR w B' A h := ⟨hr.1, fun hn => by
  obtain ⟨b, off, e, hb, hc⟩ := hr.2 hn
  exact ⟨b, off, e, by omega, hc⟩⟩
theorem EvR.below (hr : EvR w B A h) (hb : Below B w w') : EvR w' B A h := hr.keep fun _ hp => hb.cell hp
theorem EvR.at_ (hr : EvR w B A h) (hb : Below B w w') {k : Nat} (hk : k < h.length) :
    ∃ (b off : Nat) (e : Ev), A = some ⟨b, off, none⟩ ∧ b < B ∧ Hid (h[k]? = some e) ∧ e.Wd ∧ w'.cell? ⟨b, off + k * 6, none⟩ = some (.int .i64 e.th) ∧ w'.cell? ⟨b, off + k * 6 + 1, none⟩ = some (.int .i64 e.kind) ∧
      w'.cell? ⟨b, off + k * 6 + 2, none⟩ = some (.int .u64 e.addr) ∧ w'.cell? ⟨b, off + k * 6 + 3, none⟩ = some (.int .u64 e.word) ∧ w'.cell? ⟨b, off + k * 6 + 4, none⟩ = some (.bool e.own) ∧ w'.cell? ⟨b, off + k * 6 + 5, none⟩ = some (.int .i64 e.err) := by
  obtain ⟨b, off, e, hB, hc⟩ := hr.2 (by omega)
  obtain ⟨g0, g1, g2, g3, g4, g5⟩ := hc k hk
  exact ⟨b, off, h[k], e, hB, List.getElem?_eq_getElem hk, hr.1 _ (List.getElem_mem hk), (hb.cell (p := ⟨b, off + k * 6, none⟩) hB).trans g0, (hb.cell (p := ⟨b, off + k * 6 + 1, none⟩) hB).trans g1, (hb.cell (p := ⟨b, off + k * 6 + 2, none⟩) hB).trans g2,
    (hb.cell (p := ⟨b, off + k * 6 + 3, none⟩) hB).trans g3, (hb.cell (p := ⟨b, off + k * 6 + 4, none⟩) hB).trans g4, (hb.cell (p := ⟨b, off + k * 6 + 5, none⟩) hB).trans g5⟩
end
def Blk (w : World) (base t b n : Nat) (f : Nat → Value) : Prop := w.ownsRow base t n (.slice (some ⟨b, 0, none⟩) 1 1) 1 ((List.range n).map f)
section
variable {w w' : World} {base t b n : Nat} {f g : Nat → Value}
theorem Blk.cell (h : Blk w base t b n f) {j : Nat} (hj : j < n) : w.cell? ⟨b, j, none⟩ = some (f j) ∧ w.frozen? ⟨b, j, none⟩ = false := by
  refine ⟨?_, h.frozenAt j⟩
  rw [h.cellAt j (by omega)]
  simp [hj]
theorem Blk.congr (h : Blk w base t b n f) (hg : ∀ j, j < n → f j = g j) : Blk w base t b n g := by
  unfold Blk
  rwa [show (List.range n).map g = (List.range n).map f from List.map_congr_left fun j hj => (hg j (List.mem_range.1 hj)).symm]
theorem Blk.lt (h : Blk w base t b n f) : base ≤ b ∧ b < w.heap.size := World.ownsRow.lt h b rfl
theorem Blk.base' (h : Blk w base t b n f) {base' : Nat} (hb : base' ≤ base) : Blk w base' t b n f := own_base h hb
theorem Blk.set (h : Blk w base t b n f) (j : Nat) (v : Value) : Blk (w.setCell ⟨b, j, none⟩ v) base t b n (fun i => if i = j then v else f i) := by
  have := (World.ownsRow.stored h j v).1
  unfold Blk
  rwa [show (List.range n).map (fun i => if i = j then v else f i) = ((List.range n).map f).set j v from by
    apply List.ext_getElem?
    intro i
    by_cases hi : i < n
    · by_cases e : i = j
      · subst e
        simp [hi]
      · rw [List.getElem?_set_ne (fun e' => e e'.symm)]
        simp [hi, e]
    · rw [List.getElem?_eq_none (by simp; omega), List.getElem?_eq_none (by simp; omega)]]
theorem Blk.kept (h : Blk w base t b n f) (hk : w'.heap[b]? = w.heap[b]?) : Blk w' base t b n f := by
  refine ⟨(show _ ∧ _ from h).1, ?_⟩
  rcases (show _ ∨ _ from h.2) with h2 | ⟨g', cap', cur, hv, hbg, hh, h3⟩
  · exact .inl h2
  · refine .inr ⟨g', cap', cur, hv, hbg, ?_, h3⟩
    injection hv with hv
    injection hv with hv
    injection hv with hv
    rw [← hv, hk, hv]
    exact hh
theorem Blk.below (h : Blk w base t b n f) {B : Nat} (hw : b < B) (hb : Below B w w') : Blk w' base t b n f := h.kept (hb.block b hw)
end
end Go.Proofs.Ytjifpjfinffamaa
end
section
namespace Go.Proofs.Ytjifpjfinffamaa
open Go.RowKit
def pairB (k : Int) : Bool := k == 2 || (k == 3 || (k == 10 || k == 11))
def singleB (k : Int) : Bool := k == 1 || (k == 4 || k == 6)
theorem pair_any (k : Int) (w : World) : Calls Try.prog 134 #[.int .i64 k] w fun e w' => e = .returned (.bool (pairB k)) ∧ w' = w := by
  unfold pairB
  go_enter Try.func134, Try.ntmps134
  cases h1 : k == 2 <;> cases h2 : k == 3 <;> cases h3 : k == 10 <;> cases h4 : k == 11 <;> (go_wp2; go_ret; exact ⟨rfl, rfl⟩)
theorem single_any (k : Int) (w : World) : Calls Try.prog 135 #[.int .i64 k] w fun e w' => e = .returned (.bool (singleB k)) ∧ w' = w := by
  unfold singleB
  go_enter Try.func135, Try.ntmps135
  cases h1 : k == 1 <;> cases h2 : k == 4 <;> cases h3 : k == 6 <;> (go_wp2; go_ret; exact ⟨rfl, rfl⟩)
theorem kinds {k : Int} (h : 1 ≤ k ∧ k ≤ 12) : k = 1 ∨ k = 2 ∨ k = 3 ∨ k = 4 ∨ k = 5 ∨ k = 6 ∨ k = 7 ∨ k = 8 ∨ k = 9 ∨ k = 10 ∨ k = 11 ∨ k = 12 := by omega
set_option linter.unusedSimpArgs false in
set_option maxRecDepth 100000 in
set_option maxHeartbeats 3200000 in
theorem turn_any (how : Int) (e : Ev) (w : World) : Calls Try.prog 112 #[.int .i64 how, evV e] w fun e' w' => e' = .returned (.int .i64 (nextI how e.kind e.err)) ∧ Below w.heap.size w w' := by
  obtain ⟨th, k, a, x, o, er⟩ := e
  have hb := (Below.refl w.heap.size w).alloc (Nat.le_refl _) (.cells #[.int .i64 th, .int .i64 k, .int .u64 a, .int .u64 x, .bool o, .int .i64 er] 97)
  show Calls Try.prog 112 #[.int .i64 how, .agg #[.int .i64 th, .int .i64 k, .int .u64 a, .int .u64 x, .bool o, .int .i64 er]] w fun e' w' => e' = .returned (.int .i64 (nextI how k er)) ∧ Below w.heap.size w w'
  go_enter Try.func112, Try.ntmps112
  go_wp2
  all_goals
    go_ret
    refine ⟨?_, hb⟩
    simp_all [nextI]
set_option linter.unusedSimpArgs false in
set_option maxRecDepth 100000 in
set_option maxHeartbeats 3200000 in
theorem formed_any (e : Ev) (w : World) (he : e.Wd) : Calls Try.prog 111 #[evV e] w fun e' w' => e' = .returned (.bool (decide (Fm e))) ∧ Below w.heap.size w w' := by
  obtain ⟨th, k, a, x, o, er⟩ := e
  have hb := (Below.refl w.heap.size w).alloc (Nat.le_refl _) (.cells #[.int .i64 th, .int .i64 k, .int .u64 a, .int .u64 x, .bool o, .int .i64 er] 97)
  by_cases h1 : (0 ≤ th ∧ th < 8) ∧ (1 ≤ k ∧ k ≤ 12)
  · obtain ⟨⟨h1, h2⟩, h3⟩ := h1
    have e1 : decide (Fm ⟨th, k, a, x, o, er⟩) = decide (Rest ⟨th, k, a, x, o, er⟩) := by simp [Fm, h1, h2, h3.1, h3.2]
    rw [e1]
    have i1 : (1 : Int) ≤ k := h3.1
    have i2 : k ≤ 12 := h3.2
    have hm : x.tmod 2 = x % 2 := Int.tmod_eq_emod_of_nonneg he.2.1
    have HM := Lib.hid hm
    clear hm
    show Calls Try.prog 111 #[.agg #[.int .i64 th, .int .i64 k, .int .u64 a, .int .u64 x, .bool o, .int .i64 er]] w fun e' w' => e' = .returned (.bool (decide (Rest ⟨th, k, a, x, o, er⟩))) ∧ Below w.heap.size w w'
    go_enter Try.func111, Try.ntmps111
    rcases kinds h3 with rfl | rfl | rfl | rfl | rfl | rfl | rfl | rfl | rfl | rfl | rfl | rfl
    all_goals
      clear e1 i1 i2 h3
      go_wp2_with (first
        | (go_at_call 134; refine (pair_any _ _).mono ?_; rintro e wx ⟨rfl, rfl⟩; try simp only [pairB, singleB, Int.reduceBEq, Bool.false_or, Bool.or_false, Bool.true_or, Bool.or_true])
        | (go_at_call 135; refine (single_any _ _).mono ?_; rintro e wx ⟨rfl, rfl⟩; try simp only [pairB, singleB, Int.reduceBEq, Bool.false_or, Bool.or_false, Bool.true_or, Bool.or_true]))
      all_goals
        go_ret
        refine ⟨?_, (Below.refl _ _).alloc (Nat.le_refl _) _⟩
        have hm := HM.out
        simp_all [Rest, PairK, SingleK]
        try rfl
        try (rw [Bool.eq_iff_iff]; simp; omega)
  · have e1 : decide (Fm ⟨th, k, a, x, o, er⟩) = false := by
      refine decide_eq_false ?_
      rintro ⟨h2, h3, _⟩
      exact h1 ⟨h2, h3⟩
    rw [e1]
    go_enter Try.func111, Try.ntmps111
    by_cases a1 : th < 0
    · go_wp2
      go_ret
      exact ⟨rfl, hb⟩
    · by_cases a2 : 8 ≤ th
      · go_wp2
        go_ret
        exact ⟨rfl, hb⟩
      · by_cases a3 : k < 1
        · go_wp2
          go_ret
          exact ⟨rfl, hb⟩
        · have a4 : 12 < k := by omega
          go_wp2
          go_ret
          exact ⟨rfl, hb⟩
end Go.Proofs.Ytjifpjfinffamaa
end
section
namespace Go.Proofs.Ytjifpjfinffamaa
open Go.RowKit
def RP (w : World) (B : Nat) (A : Option Addr) (l : List (Int × Int)) : Prop :=
  0 < l.length → ∃ b off, A = some ⟨b, off, none⟩ ∧ b < B ∧ ∀ i (h : i < l.length), w.cell? ⟨b, off + i * 2, none⟩ = some (.int .u64 l[i].1) ∧ w.cell? ⟨b, off + i * 2 + 1, none⟩ = some (.int .u64 l[i].2)
theorem wrt_take {l : List (Int × Int)} {k : Nat} {p : Int × Int} (h : l[k]? = some p) (a : Int) : wrt (l.take (k + 1)) a = if p.1 = a then some p.2 else wrt (l.take k) a := by
  rw [List.take_add_one, h]
  obtain ⟨x, y⟩ := p
  exact wrt_snoc _ x y a
def wrtV (r : Option Int) : Value := .tuple #[.int .u64 (r.getD 0), .bool r.isSome]
theorem wrtV_some (x : Int) : Value.tuple #[.int .u64 x, .bool true] = wrtV (some x) := rfl
theorem wrtV_none : Value.tuple #[.int .u64 0, .bool false] = wrtV none := rfl
set_option maxRecDepth 100000 in
theorem written_any (A : Option Addr) (c : Nat) (l : List (Int × Int)) (a : Int) (w : World) (hl : l.length ≤ 1099511627776) (hr : RP w w.heap.size A l) :
    Calls Try.prog 136 #[.slice A l.length c, .int .u64 a] w fun e w' => e = .returned (wrtV (wrt l a)) ∧ w' = w := by
  go_enter Try.func136, Try.ntmps136
  go_wp2
  go_loopw [6] (fun i wr => ∃ k : Nat, k ≤ l.length ∧ i = .int .i64 ((k : Int) - 1) ∧ Hid (wrt l a = wrt (l.take k) a) ∧ wr = w) (fun i _ => (intOf i + 1).toNat)
  case atStart => exact ⟨l.length, Nat.le_refl _, rfl, Lib.hid (by rw [List.take_length]), rfl⟩
  case round =>
    obtain ⟨k, hk, rfl, HW, rfl⟩ := hrel
    cases k with
    | zero =>
      have HF := Lib.hid (show wrt l a = none from HW.out.trans rfl)
      clear HW
      go_wp2
      go_ret2
      exact ⟨by rw [HF.out]; rfl, rfl⟩
    | succ k =>
      obtain ⟨b, off, rfl, hb, hc⟩ := hr (by omega)
      have hkl : k < l.length := by omega
      obtain ⟨h1, h2⟩ := hc k hkl
      have hp : l[k]? = some l[k] := List.getElem?_eq_getElem hkl
      have hw := HW.out
      rw [wrt_take hp] at hw
      generalize l[k] = p at *
      obtain ⟨x, y⟩ := p
      simp only at h1 h2 hw
      have i1 : (((k + 1 : Nat) : Int) - 1) = (k : Int) := by omega
      have i2 : (0 : Int) ≤ (k : Int) := by omega
      have i3 : (k : Int) < (l.length : Int) := by omega
      rw [i1]
      by_cases hxa : x = a
      · subst hxa
        rw [if_pos rfl] at hw
        have HF := Lib.hid hw
        clear hw HW hp hc hr
        go_wp2
        go_ret2
        exact ⟨by rw [HF.out]; rfl, rfl⟩
      · rw [if_neg hxa] at hw
        have HW2 := Lib.hid hw
        have e1 : (x == a) = false := by simpa using hxa
        clear hw HW hp hc hr hxa
        go_wp2
        go_roundw
        case rel => exact ⟨k, by omega, by go_num, HW2, trivial⟩
        case measure => simp [intOf]
structure WldC (w : World) (b : Nat) (s : SS) (A : Nat → Option Addr) (c : Nat → Nat) : Prop where
  how : ∀ i, i < 8 → w.cell? ⟨b, i * 3, none⟩ = some (.int .i64 (s.t i).how)
  snap : ∀ i, i < 8 → w.cell? ⟨b, i * 3 + 1, none⟩ = some (.int .u64 (s.t i).snap)
  wr : ∀ i, i < 8 → w.cell? ⟨b, i * 3 + 2, none⟩ = some (.slice (A i) (s.t i).wr.length (c i))
  num : w.cell? ⟨b, 24, none⟩ = some (.int .u64 s.num)
theorem WldC.keep {w w' : World} {b : Nat} {s : SS} {A : Nat → Option Addr} {c : Nat → Nat} (h : WldC w b s A c) (hk : ∀ p : Addr, p.block = b → w'.cell? p = w.cell? p) : WldC w' b s A c :=
  ⟨fun i hi => (hk ⟨b, i * 3, none⟩ rfl).trans (h.how i hi), fun i hi => (hk ⟨b, i * 3 + 1, none⟩ rfl).trans (h.snap i hi), fun i hi => (hk ⟨b, i * 3 + 2, none⟩ rfl).trans (h.wr i hi), (hk ⟨b, 24, none⟩ rfl).trans h.num⟩
set_option maxRecDepth 100000 in
theorem locked_any (b th : Nat) (s : SS) (A : Nat → Option Addr) (c : Nat → Nat) (w : World) (hs : WldC w b s A c) :
    Calls Try.prog 113 #[.pointer (some ⟨b, 0, none⟩), .int .i64 th] w fun e w' => e = .returned (.bool (lockedB s th)) ∧ w' = w := by
  have HS := Lib.hid hs
  clear hs
  go_enter Try.func113, Try.ntmps113
  go_wp2
  go_loopw [5] (fun i wr => ∃ k : Nat, k ≤ 8 ∧ i = .int .i64 k ∧ Hid (∀ j, j < k → ¬ (j ≠ th ∧ (s.t j).how = 2)) ∧ wr = w) (fun i _ => 8 - (intOf i).toNat)
  case atStart => exact ⟨0, by omega, rfl, Lib.hid fun j hj => absurd hj (Nat.not_lt_zero _), rfl⟩
  case round =>
    obtain ⟨k, hk, rfl, HW, rfl⟩ := hrel
    by_cases hk8 : k < 8
    · have h1 := HS.out.how k hk8
      have i1 : (0 : Int) ≤ (k : Int) := by omega
      have i2 : (k : Int) < 8 := by omega
      have HN := Lib.hid (fun (h : ¬ (k ≠ th ∧ (s.t k).how = 2)) => show ∀ j, j < k + 1 → ¬ (j ≠ th ∧ (s.t j).how = 2) from fun j hj => by
        rcases Nat.lt_or_eq_of_le (Nat.lt_succ_iff.1 hj) with h2 | rfl
        · exact HW.out j h2
        · exact h)
      by_cases ht : k = th
      · have e1 : ((k : Int) != (th : Int)) = false := by simp; omega
        have HN2 := Lib.hid (HN.out fun h => h.1 ht)
        clear ht
        go_wp2
        go_roundw
        case rel => exact ⟨k + 1, hk8, by go_num, HN2, trivial⟩
        case measure => simp [intOf]; omega
      · have e1 : ((k : Int) != (th : Int)) = true := by simp; omega
        by_cases h2 : (s.t k).how = 2
        · have hx : lockedB s th = true := by
            unfold lockedB
            rw [List.any_eq_true]
            exact ⟨k, List.mem_range.2 hk8, by simp [ht, h2]⟩
          have HX := Lib.hid hx
          have e2 : ((s.t k).how == 2) = true := by simpa using h2
          generalize (s.t k).how = z at *
          clear HN HW hx h2 ht
          go_wp2
          go_ret
          exact ⟨by rw [HX.out]; rfl, rfl⟩
        · have HN2 := Lib.hid (HN.out fun h => h2 h.2)
          have e2 : ((s.t k).how == 2) = false := by simpa using h2
          clear HN
          generalize (s.t k).how = z at *
          clear ht h2
          go_wp2
          go_roundw
          case rel => exact ⟨k + 1, hk8, by go_num, HN2, trivial⟩
          case measure => simp [intOf]; omega
    · have hx : lockedB s th = false := by
        unfold lockedB
        rw [List.any_eq_false]
        intro j hj
        have := HW.out j (by have := List.mem_range.1 hj; omega)
        simpa using this
      obtain rfl : k = 8 := by omega
      have HX := Lib.hid hx
      clear HW hx
      go_wp2
      go_ret
      exact ⟨by rw [HX.out]; rfl, rfl⟩
set_option linter.unusedSimpArgs false in
set_option maxRecDepth 100000 in
set_option maxHeartbeats 3200000 in
theorem number_any (b th : Nat) (s : SS) (A : Nat → Option Addr) (c : Nat → Nat) (e : Ev) (w : World) (hth : e.th.toNat = th) (h8 : th < 8) (hs : WldC w b s A c) (hb : b < w.heap.size) (hsn : 0 ≤ (s.t th).snap ∧ (s.t th).snap < 18446744073709551616) :
    Calls Try.prog 114 #[.pointer (some ⟨b, 0, none⟩), .pointer (some ⟨b, th * 3, none⟩), evV e] w fun e' w' => e' = .returned (.bool (numB s e)) ∧ Below w.heap.size w w' := by
  obtain ⟨t, k, a, x, o, er⟩ := e
  simp only at hth
  have key : numB s ⟨t, k, a, x, o, er⟩ = if k = 1 then x == two s.num
      else if k = 4 then x == two s.num && decide ((s.t th).snap < x)
      else if k = 5 then (s.t th).snap == two s.num
      else if k = 6 then (if (s.t th).how = 2 then x == IntKind.u64.wrap (s.num + 1) else x == (s.t th).snap / 2)
      else true := by simp only [numB, hth]
  have KEY := Lib.hid key
  have hal : ∀ p : Addr, p.block = b → (w.alloc (.cells #[.int .i64 t, .int .i64 k, .int .u64 a, .int .u64 x, .bool o, .int .i64 er] 97)).cell? p = w.cell? p := fun p hp => World.cell?_alloc_lt w _ p (by omega)
  have h1 := (hs.keep hal).how th h8
  have h2 := (hs.keep hal).snap th h8
  have h3 := (hs.keep hal).num
  show Calls Try.prog 114 #[.pointer (some ⟨b, 0, none⟩), .pointer (some ⟨b, th * 3, none⟩), .agg #[.int .i64 t, .int .i64 k, .int .u64 a, .int .u64 x, .bool o, .int .i64 er]] w fun e' w' => e' = .returned (.bool (numB s ⟨t, k, a, x, o, er⟩)) ∧ Below w.heap.size w w'
  generalize numB s ⟨t, k, a, x, o, er⟩ = res at *
  unfold two at KEY
  generalize (s.t th).how = hw at *
  generalize (s.t th).snap = sn at *
  generalize s.num = nm at *
  have HS := Lib.hid hs
  have hdiv : sn.tdiv 2 = sn / 2 := Int.tdiv_eq_ediv_of_nonneg hsn.1
  have HD := Lib.hid hdiv
  have n1 : (0 : Int) ≤ sn := hsn.1
  have n2 : sn < 18446744073709551616 := hsn.2
  clear hs key hal hth hdiv hsn
  have HB := Lib.hid ((Below.refl w.heap.size w).alloc (Nat.le_refl _) (.cells #[.int .i64 t, .int .i64 k, .int .u64 a, .int .u64 x, .bool o, .int .i64 er] 97))
  go_enter Try.func114, Try.ntmps114
  by_cases k1 : k = 1
  · subst k1
    rw [if_pos rfl] at KEY
    go_wp2
    go_quiet (fail)
    go_wp2
    go_ret
    exact ⟨by rw [KEY.out]; rfl, bdrewN HB.out _⟩
  · rw [if_neg k1] at KEY
    by_cases k4 : k = 4
    · subst k4
      rw [if_pos rfl] at KEY
      cases q : (x == IntKind.u64.wrap (2 * nm)) with
      | false =>
        rw [q] at KEY
        go_wp2
        go_quiet (fail)
        go_wp2
        go_ret
        exact ⟨by rw [KEY.out]; rfl, bdrewN HB.out _⟩
      | true =>
        rw [q] at KEY
        go_wp2
        go_quiet (fail)
        go_wp2
        go_ret
        exact ⟨by rw [KEY.out]; rfl, bdrewN HB.out _⟩
    · rw [if_neg k4] at KEY
      by_cases k5 : k = 5
      · subst k5
        rw [if_pos rfl] at KEY
        go_wp2
        go_quiet (fail)
        go_wp2
        go_ret
        exact ⟨by rw [KEY.out]; rfl, bdrewN HB.out _⟩
      · rw [if_neg k5] at KEY
        by_cases k6 : k = 6
        · subst k6
          rw [if_pos rfl] at KEY
          by_cases h2 : hw = 2
          · subst h2
            rw [if_pos rfl] at KEY
            go_wp2
            go_quiet (fail)
            go_wp2
            go_ret
            exact ⟨by rw [KEY.out]; rfl, bdrewN HB.out _⟩
          · rw [if_neg h2] at KEY
            have e2 : (hw == 2) = false := by simpa using h2
            clear h2
            go_wp2
            go_quiet (fail)
            go_wp2
            go_ret
            exact ⟨by rw [KEY.out]; rfl, bdrewN HB.out _⟩
        · rw [if_neg k6] at KEY
          have e1 : (k == 1) = false := by simpa using k1
          have e4 : (k == 4) = false := by simpa using k4
          have e5 : (k == 5) = false := by simpa using k5
          have e6 : (k == 6) = false := by simpa using k6
          clear k1 k4 k5 k6
          go_wp2
          go_ret
          exact ⟨by rw [KEY.out]; rfl, HB.out⟩
end Go.Proofs.Ytjifpjfinffamaa
end
section
namespace Go.Proofs.Ytjifpjfinffamaa
open Go.RowKit
theorem RP.keep {w w' : World} {B : Nat} {A : Option Addr} {l : List (Int × Int)} (h : RP w B A l) (hk : ∀ p : Addr, p.block < B → w'.cell? p = w.cell? p) : RP w' B A l := fun hn => by
  obtain ⟨b, off, e, hb, hc⟩ := h hn
  exact ⟨b, off, e, hb, fun i hi => ⟨(hk ⟨b, off + i * 2, none⟩ hb).trans (hc i hi).1, (hk ⟨b, off + i * 2 + 1, none⟩ hb).trans (hc i hi).2⟩⟩
theorem RP.more {w : World} {B B' : Nat} {A : Option Addr} {l : List (Int × Int)} (h : RP w B A l) (hB : B ≤ B') : RP w B' A l := fun hn => by
  obtain ⟨b, off, e, hb, hc⟩ := h hn
  exact ⟨b, off, e, by omega, hc⟩
theorem RP.below {w w' : World} {B : Nat} {A : Option Addr} {l : List (Int × Int)} (h : RP w B A l) (hb : Below B w w') : RP w' B A l := h.keep fun _ hp => hb.cell hp
set_option linter.unusedSimpArgs false in
set_option maxRecDepth 100000 in
set_option maxHeartbeats 3200000 in
theorem own_any (b th : Nat) (s : SS) (A : Nat → Option Addr) (c : Nat → Nat) (e : Ev) (w : World) (hth : e.th.toNat = th) (h8 : th < 8) (hs : WldC w b s A c) (hb : b < w.heap.size) (hl : (s.t th).wr.length ≤ 1099511627776) (hr : RP w w.heap.size (A th) (s.t th).wr) :
    Calls Try.prog 115 #[.pointer (some ⟨b, th * 3, none⟩), evV e] w fun e' w' => e' = .returned (.bool (ownB s e)) ∧ Below w.heap.size w w' := by
  obtain ⟨t, k, a, x, o, er⟩ := e
  simp only at hth
  have key : ownB s ⟨t, k, a, x, o, er⟩ = if k = 2 then (match wrt (s.t th).wr a with | none => !o | some y => o && y == x)
      else if k = 5 then decide (0 < (s.t th).wr.length)
      else if k = 6 then decide ((s.t th).how = 2) || decide ((s.t th).wr.length = 0)
      else true := by simp only [ownB, hth] <;> rfl
  have KEY := Lib.hid key
  have hal : ∀ p : Addr, p.block = b → (w.alloc (.cells #[.int .i64 t, .int .i64 k, .int .u64 a, .int .u64 x, .bool o, .int .i64 er] 97)).cell? p = w.cell? p := fun p hp => World.cell?_alloc_lt w _ p (by omega)
  have h1 := (hs.keep hal).how th h8
  have h2 := (hs.keep hal).wr th h8
  have HB := Lib.hid ((Below.refl w.heap.size w).alloc (Nat.le_refl _) (.cells #[.int .i64 t, .int .i64 k, .int .u64 a, .int .u64 x, .bool o, .int .i64 er] 97))
  show Calls Try.prog 115 #[.pointer (some ⟨b, th * 3, none⟩), .agg #[.int .i64 t, .int .i64 k, .int .u64 a, .int .u64 x, .bool o, .int .i64 er]] w fun e' w' => e' = .returned (.bool (ownB s ⟨t, k, a, x, o, er⟩)) ∧ Below w.heap.size w w'
  generalize ownB s ⟨t, k, a, x, o, er⟩ = res at *
  generalize (s.t th).how = hw at *
  generalize (s.t th).wr = wr at *
  generalize A th = Aw at *
  generalize c th = cw at *
  have HS := Lib.hid hs
  have HR := Lib.hid (fun (n : Nat) => written_any Aw cw wr a ((w.alloc (.cells #[.int .i64 t, .int .i64 k, .int .u64 a, .int .u64 x, .bool o, .int .i64 er] 97)).drewN n) hl ((hr.below (bdrewN HB.out n)).more (bdrewN HB.out n).size))
  clear hs key hal hth hr
  go_enter Try.func115, Try.ntmps115
  by_cases k2 : k = 2
  · subst k2
    rw [if_pos rfl] at KEY
    have hrr := HR.out
    cases q : wrt wr a with
    | none =>
      rw [q] at KEY hrr
      rw [← wrtV_none] at hrr
      clear HR
      cases o with
      | false =>
        go_wp2
        go_quiet (first | (go_at_call 136; exact Calls.quiet_of_same (hrr _)))
        go_wp2
        go_ret
        exact ⟨by rw [KEY.out]; rfl, bdrewN HB.out _⟩
      | true =>
        go_wp2
        go_quiet (first | (go_at_call 136; exact Calls.quiet_of_same (hrr _)))
        go_wp2
        go_ret
        exact ⟨by rw [KEY.out]; rfl, bdrewN HB.out _⟩
    | some y =>
      rw [q] at KEY hrr
      rw [← wrtV_some] at hrr
      clear HR
      cases o with
      | false =>
        go_wp2
        go_quiet (first | (go_at_call 136; exact Calls.quiet_of_same (hrr _)))
        go_wp2
        go_ret
        exact ⟨by rw [KEY.out]; rfl, bdrewN HB.out _⟩
      | true =>
        go_wp2
        go_quiet (first | (go_at_call 136; exact Calls.quiet_of_same (hrr _)))
        go_wp2
        go_ret
        exact ⟨by rw [KEY.out]; rfl, bdrewN HB.out _⟩
  · rw [if_neg k2] at KEY
    clear HR
    by_cases k5 : k = 5
    · subst k5
      rw [if_pos rfl] at KEY
      go_wp2
      go_ret
      exact ⟨by rw [KEY.out]; first | rfl | (congr 2; rw [Bool.eq_iff_iff]; simp; omega) | simp, HB.out⟩
    · rw [if_neg k5] at KEY
      by_cases k6 : k = 6
      · subst k6
        rw [if_pos rfl] at KEY
        by_cases h2 : hw = 2
        · subst h2
          go_wp2
          go_ret
          exact ⟨by rw [KEY.out]; rfl, HB.out⟩
        · have e2 : (hw == 2) = false := by simpa using h2
          have HX := Lib.hid (show res = decide (wr.length = 0) by rw [KEY.out]; simp [h2])
          clear h2
          go_wp2
          go_ret
          exact ⟨by rw [HX.out]; refine congrArg (fun b => Ending.returned (Value.bool b)) (?_ : ((wr.length : Int) == 0) = decide (wr.length = 0)); rw [Bool.eq_iff_iff]; simp, HB.out⟩
      · rw [if_neg k6] at KEY
        have e2 : (k == 2) = false := by simpa using k2
        have e5 : (k == 5) = false := by simpa using k5
        have e6 : (k == 6) = false := by simpa using k6
        clear k2 k5 k6
        go_wp2
        go_ret
        exact ⟨by rw [KEY.out]; rfl, HB.out⟩
end Go.Proofs.Ytjifpjfinffamaa
end
section
namespace Go.Proofs.Ytjifpjfinffamaa
open Go.RowKit
section
variable {P : Program} (w : World)
theorem run_append_two (t ty : TypeId) (base E : Nat) (z : Value) (size bytes : Nat) (hinfo : (P.info? E).map (fun i => (i.zero, i.size, i.bytes)) = some (some z, size, bytes)) (ht : P.underlying t = some (.slice E))
    (hzs : z.cells.size = size) (_hsz : 0 < size) (v : Value) (n : Nat) (xs : List Value) (hown : w.ownsRow base E size v n xs)
    (b c1 : Nat) (news : List Value) (hb : w.heap[b]? = some (.cells news.toArray E (0, 0))) (hl : news.length = size) (h1 : ∀ u ∈ news, u.oneCell' = true)
    (hbytes : (n + 1) * bytes ≤ 140737488355328) (h63 : n + 1 ≤ 140737488355328) (hbase : base ≤ w.heap.size) :
    ∃ g cap w', (Builtin.append_ #[t, t] ty #[v, .slice (some ⟨b, 0, none⟩) 1 c1]).run P w = .ok (.slice (some ⟨g, 0, none⟩) (n + 1) cap) w' ∧
      w'.ownsRow base E size (.slice (some ⟨g, 0, none⟩) (n + 1) cap) (n + 1) (xs ++ news) ∧ g < w'.heap.size ∧
      ((v.ownBlock = some g ∧ w.grownBy w' (some g)) ∨ (g = w.heap.size ∧ w.grownBy w' none)) := by
  obtain ⟨i, hi, hz, hsize, hby⟩ := info_parts hinfo
  subst hsize
  subst hby
  have hnews : ∀ j u, news[j]? = some u → w.cell? ((⟨b, 0, none⟩ : Addr).add j) = some u := fun j u hu => cells_of_new hb _ rfl j u hu
  have hl1 : news.length = 1 * i.size := by omega
  have hlen : (xs ++ news).length = (n + 1) * i.size := by rw [List.length_append, hown.1, hl, Nat.add_mul]; omega
  have grown : ∀ (old : Nat), old < n + 1 →
      (w.drew.alloc (.cells (xs.toArray ++ news.toArray ++ Builtin.zeroCells z.cells (grownCap w (n + 1) old E - (n + 1))) E)).ownsRow base E i.size
        (.slice (some ⟨w.heap.size, 0, none⟩) (n + 1) (grownCap w (n + 1) old E)) (n + 1) (xs ++ news) ∧
      w.grownBy (w.drew.alloc (.cells (xs.toArray ++ news.toArray ++ Builtin.zeroCells z.cells (grownCap w (n + 1) old E - (n + 1))) E)) none := by
    intro old ho
    have hge := grownCap_ge w (n + 1) old E
    have hcm : grownCap w (n + 1) old E ≤ maxLen := grownCap_le_maxLen w (n + 1) old E (by unfold maxLen; omega)
    refine ⟨⟨hlen, .inr ⟨w.heap.size, _, _, rfl, hbase, heap_alloc_new w.drew _, hge, hcm, ?_, ?_⟩⟩, ⟨rfl, rfl, rfl, by simp, fun k hk _ => Below.heap_alloc w.drew _ k hk⟩⟩
    · simp only [Array.size_append, List.size_toArray, size_zeroCells, hzs, hown.1, hl1, ← Nat.add_mul]
      congr 1
      omega
    · simp only [Array.toList_append, List.append_assoc]
      rw [← List.append_assoc, ← hlen]
      exact List.take_left
  rcases hown.2 with ⟨rfl, rfl⟩ | ⟨g, cap, cur, rfl, hbg, hg, hnc, hcm, hcs, htake⟩
  · have hx : xs = [] := List.eq_nil_of_length_eq_zero (by simpa using hown.1)
    subst hx
    have hr := run_append_nil (P := P) w t ty E i z ht hi hz ⟨b, 0, none⟩ 1 c1 news hl1 hnews (by omega) (by omega) (by have hb := hbytes; simp only [Nat.zero_add] at hb; omega)
    have hgr := grown 0 (by omega)
    simp only [Nat.zero_add, List.nil_append, Array.empty_append] at hgr ⊢
    exact ⟨_, _, _, hr, hgr.1, by simp, .inr ⟨rfl, hgr.2⟩⟩
  · by_cases hroom : n + 1 ≤ cap
    · have hfit : n * i.size + news.length ≤ cur.size := by rw [hl1, hcs, ← Nat.add_mul]; exact Nat.mul_le_mul_right _ hroom
      have hr := run_append_room (P := P) w t ty E i ht hi g n cap cur hg ⟨b, 0, none⟩ 1 c1 news hl1 hnews h1 hroom hfit
      have hglt : g < w.heap.size := (Array.getElem?_eq_some_iff.1 hg).1
      refine ⟨_, _, _, hr, ⟨hlen, .inr ⟨g, cap, _, rfl, hbg, setRow_heap w g cur _ E _ hg, hroom, hcm, ?_, ?_⟩⟩, by simpa using hglt, .inl ⟨rfl, ⟨rfl, rfl, rfl, by simp, fun k _ hk => setRow_other w g k _ (fun e => hk (by simp [e]))⟩⟩⟩
      · simp only [List.size_toArray, List.length_append, List.length_take, List.length_drop, Array.length_toList]
        omega
      · rw [htake, ← hlen]
        exact List.take_left
    · have holds : ∀ j u, xs[j]? = some u → w.cell? ((⟨g, 0, none⟩ : Addr).add j) = some u := hown.cells (g := g) rfl
      have hr := run_append_grow (P := P) w t ty E i z ht hi hz ⟨g, 0, none⟩ n cap xs hown.1 holds ⟨b, 0, none⟩ 1 c1 news hl1 hnews (by omega) (by omega) (growslice_fits (by omega) hbytes)
      have hgr := grown cap (by omega)
      exact ⟨_, _, _, hr, hgr.1, by simp, .inr ⟨rfl, hgr.2⟩⟩
theorem wp_append_two {o : Oper} {a : Act} {K : Act → World → Prop} {Q : Exit → Act → World → Prop} (s x : Operand) (t : TypeId)
    (ho : o.op = .call { callee := .builtin .append, args := #[s, x], argTypes := #[t, t] })
    (base E : Nat) (z : Value) (size bytes : Nat) (hinfo : (P.info? E).map (fun i => (i.zero, i.size, i.bytes)) = some (some z, size, bytes)) (ht : P.underlying t = some (.slice E))
    (hzs : z.cells.size = size) (hsz : 0 < size)
    (v : Value) (n : Nat) (xs : List Value) (hs : a.eval s = v) (hown : w.ownsRow base E size v n xs)
    (b c1 : Nat) (news : List Value) (hx : a.eval x = .slice (some ⟨b, 0, none⟩) 1 c1) (hb : w.heap[b]? = some (.cells news.toArray E (0, 0))) (hl : news.length = size) (h1 : ∀ u ∈ news, u.oneCell' = true)
    (hbytes : (n + 1) * bytes ≤ 140737488355328) (h63 : n + 1 ≤ 140737488355328) (hbase : base ≤ w.heap.size)
    (h : ∀ g cap w', w'.ownsRow base E size (.slice (some ⟨g, 0, none⟩) (n + 1) cap) (n + 1) (xs ++ news) → g < w'.heap.size → ((v.ownBlock = some g ∧ w.grownBy w' (some g)) ∨ (g = w.heap.size ∧ w.grownBy w' none)) → K (a.put o.dst (.slice (some ⟨g, 0, none⟩) (n + 1) cap)) w') :
    o.wp P a w K Q := by
  obtain ⟨g, cap, w', hr, h2, h3, h4⟩ := run_append_two (P := P) w t o.type base E z size bytes hinfo ht hzs hsz v n xs hown b c1 news hb hl h1 hbytes h63 hbase
  unfold Oper.wp execOp
  simp only [ho, resolve, invoke, builtin, Sem.run_bind, Sem.run_pure, Result.andThen_ok, List.map_toArray, List.map_cons, List.map_nil, hs, hx, hr]
  exact h g cap w' h2 h3 h4
theorem wl_append_two {ops : Array Oper} {rest : List Oper} {o : Oper} {a : Act} {Q : Exit → Act → World → Prop} (hgd : o.guard = none) (s x : Operand) (t : TypeId)
    (ho : o.op = .call { callee := .builtin .append, args := #[s, x], argTypes := #[t, t] })
    (base E : Nat) (z : Value) (size bytes : Nat) (hinfo : (P.info? E).map (fun i => (i.zero, i.size, i.bytes)) = some (some z, size, bytes)) (ht : P.underlying t = some (.slice E))
    (hzs : z.cells.size = size) (hsz : 0 < size)
    (v : Value) (n : Nat) (xs : List Value) (hs : a.eval s = v) (hown : w.ownsRow base E size v n xs)
    (b c1 : Nat) (news : List Value) (hx : a.eval x = .slice (some ⟨b, 0, none⟩) 1 c1) (hb : w.heap[b]? = some (.cells news.toArray E (0, 0))) (hl : news.length = size) (h1 : ∀ u ∈ news, u.oneCell' = true)
    (hbytes : (n + 1) * bytes ≤ 140737488355328) (h63 : n + 1 ≤ 140737488355328) (hbase : base ≤ w.heap.size)
    (h : ∀ g cap w', w'.ownsRow base E size (.slice (some ⟨g, 0, none⟩) (n + 1) cap) (n + 1) (xs ++ news) → g < w'.heap.size → ((v.ownBlock = some g ∧ w.grownBy w' (some g)) ∨ (g = w.heap.size ∧ w.grownBy w' none)) → wpList P ops Q rest (a.put o.dst (.slice (some ⟨g, 0, none⟩) (n + 1) cap)) w') :
    wpList P ops Q (o :: rest) a w :=
  wpList_plain hgd fun _ hK => wp_append_two w s x t ho base E z size bytes hinfo ht hzs hsz v n xs hs hown b c1 news hx hb hl h1 hbytes h63 hbase fun g cap w' h2 h3 h4 => hK _ _ (h g cap w' h2 h3 h4)
theorem step_append_two {ops : Array Oper} {o : Oper} {a : Act} {K : Act → World → Prop} {Q : Exit → Act → World → Prop} {X : Prop} (hgd : o.guard = none) (s x : Operand) (t : TypeId)
    (ho : o.op = .call { callee := .builtin .append, args := #[s, x], argTypes := #[t, t] })
    (base E : Nat) (z : Value) (size bytes : Nat) (hinfo : (P.info? E).map (fun i => (i.zero, i.size, i.bytes)) = some (some z, size, bytes)) (ht : P.underlying t = some (.slice E))
    (hzs : z.cells.size = size) (hsz : 0 < size)
    (v : Value) (n : Nat) (xs : List Value) (hs : a.eval s = v) (hown : w.ownsRow base E size v n xs)
    (b c1 : Nat) (news : List Value) (hx : a.eval x = .slice (some ⟨b, 0, none⟩) 1 c1) (hb : w.heap[b]? = some (.cells news.toArray E (0, 0))) (hl : news.length = size) (h1 : ∀ u ∈ news, u.oneCell' = true)
    (hbytes : (n + 1) * bytes ≤ 140737488355328) (h63 : n + 1 ≤ 140737488355328) (hbase : base ≤ w.heap.size)
    (h : ∀ g cap w', w'.ownsRow base E size (.slice (some ⟨g, 0, none⟩) (n + 1) cap) (n + 1) (xs ++ news) → g < w'.heap.size → ((v.ownBlock = some g ∧ w.grownBy w' (some g)) ∨ (g = w.heap.size ∧ w.grownBy w' none)) → K (a.put o.dst (.slice (some ⟨g, 0, none⟩) (n + 1) cap)) w') :
    if Region.wanted o (yielded ops a.tmps) = true then Oper.wp P o a w K Q else X := by
  have hw : Region.wanted o (yielded ops a.tmps) = true := by simp [Region.wanted, hgd]
  rw [if_pos hw]
  exact wp_append_two w s x t ho base E z size bytes hinfo ht hzs hsz v n xs hs hown b c1 news hx hb hl h1 hbytes h63 hbase h
end
theorem grown_frozen {w w' : World} {r : Option Nat} (hg : w.grownBy w' r) {a : Addr} (hlt : a.block < w.heap.size) (hne : some a.block ≠ r) (h : w.frozen? a = false) : w'.frozen? a = false :=
  (World.frozen?_of_block (hg.block a.block hlt hne)).trans h
theorem frozen_alloc {w : World} {a : Addr} (o : Obj) (hlt : a.block < w.heap.size) (h : w.frozen? a = false) : (w.alloc o).frozen? a = false :=
  (World.frozen?_of_block (Below.heap_alloc w o a.block hlt)).trans h
theorem heap_at (w : World) (o : Obj) (H : Nat) (hH : w.heap.size = H) : (w.alloc o).heap[H]? = some o := by rw [← hH]; exact heap_alloc_new w o
theorem two_grown {w w' : World} {v : Value} {g : Nat} (h : (v.ownBlock = some g ∧ w.grownBy w' (some g)) ∨ (g = w.heap.size ∧ w.grownBy w' none)) : w.grownBy w' v.ownBlock := by
  rcases h with ⟨h1, h2⟩ | ⟨_, h2⟩
  · rw [h1]; exact h2
  · exact ⟨h2.os, h2.tape, h2.output, h2.size, fun k hk _ => h2.block k hk (by simp)⟩
theorem own_ne_blk {w : World} {base e size n : Nat} {v : Value} {xs : List Value} {g : Nat} {t : TypeId} {cs : Array Value} {fr : Nat × Nat} (h : w.ownsRow base e size v n xs) (hg : w.heap[g]? = some (.cells cs t fr)) (hne : e ≠ t) : v.ownBlock ≠ some g := by
  rcases h.2 with ⟨rfl, _⟩ | ⟨g', cap, cur, rfl, _, hh, _⟩
  · intro hc; cases hc
  · intro hc
    have : g' = g := Option.some.inj hc
    subst this
    rw [hh] at hg
    injection hg with hg
    injection hg with _ ht
    exact hne ht
def ints (xs : List Int) : List Value := xs.map (Value.int .i64)
theorem grown_trans {a b c : World} {r : Option Nat} (h : a.grownBy b r) (h' : b.grownBy c r) : a.grownBy c r :=
  ⟨h'.os.trans h.os, h'.tape.trans h.tape, h'.output.trans h.output, Nat.le_trans h.size h'.size, fun k hk hr => (h'.block k (Nat.lt_of_lt_of_le hk h.size) hr).trans (h.block k hk hr)⟩
theorem grown_drew (w : World) (r : Option Nat) : w.grownBy w.drew r := ⟨rfl, rfl, rfl, Nat.le_refl _, fun _ _ _ => rfl⟩
theorem own_shape {w : World} {base e size n : Nat} {v : Value} {xs : List Value} (h : w.ownsRow base e size v n xs) : ∃ A c, v = .slice A n c := by
  rcases h.2 with ⟨rfl, rfl⟩ | ⟨g, cap, cur, rfl, _⟩
  · exact ⟨none, 0, rfl⟩
  · exact ⟨_, _, rfl⟩
end Go.Proofs.Ytjifpjfinffamaa
end
section
namespace Go.Proofs.Ytjifpjfinffamaa
open Go.RowKit
def pcells (p : Int × Int) : List Value := [.int .u64 p.1, .int .u64 p.2]
theorem pcells_get : ∀ (l : List (Int × Int)) (i : Nat) (h : i < l.length), (l.flatMap pcells)[i * 2]? = some (.int .u64 l[i].1) ∧ (l.flatMap pcells)[i * 2 + 1]? = some (.int .u64 l[i].2)
  | [], i, h => by simp at h
  | e :: r, 0, h => by simp [List.flatMap_cons, pcells]
  | e :: r, i + 1, h => by
    have hi : i < r.length := by simpa using h
    have := pcells_get r i hi
    have e1 : (i + 1) * 2 = i * 2 + 2 := by omega
    have l2 : (pcells e).length = 2 := rfl
    rw [List.flatMap_cons, e1]
    refine ⟨?_, ?_⟩ <;> rw [List.getElem?_append_right (by rw [l2]; omega), l2]
    · simpa using this.1
    · rw [show i * 2 + 2 + 1 - 2 = i * 2 + 1 from by omega]; simpa using this.2
def OwnP (w : World) (base : Nat) (A : Option Addr) (c : Nat) (l : List (Int × Int)) : Prop := w.ownsRow base 182 2 (.slice A l.length c) l.length (l.flatMap pcells)
theorem OwnP.nil (w : World) (base : Nat) : OwnP w base none 0 [] := World.ownsRow_nil w base 182 2
theorem OwnP.reads {w : World} {base : Nat} {A : Option Addr} {c : Nat} {l : List (Int × Int)} (h : OwnP w base A c l) : RP w w.heap.size A l := by
  intro hn
  obtain ⟨g, cap, hv, _, hlt⟩ := World.ownsRow.form h hn
  have hA : A = some ⟨g, 0, none⟩ := by injection hv
  subst hA
  refine ⟨g, 0, rfl, hlt, fun i hi => ?_⟩
  have hg := pcells_get l i hi
  have hcell : ∀ j u, (l.flatMap pcells)[j]? = some u → w.cell? ⟨g, 0 + j, none⟩ = some u := by
    intro j u hu
    have := World.ownsRow.cells h (g := g) rfl j u hu
    rw [Addr.add_lit] at this
    exact this
  exact ⟨hcell _ _ hg.1, hcell _ _ hg.2⟩
theorem OwnP.kept {w w' : World} {base : Nat} {A : Option Addr} {c : Nat} {l : List (Int × Int)} (h : OwnP w base A c l) (hk : ∀ g, (Value.slice A l.length c).ownBlock = some g → w'.heap[g]? = w.heap[g]?) : OwnP w' base A c l := by
  refine ⟨(show _ ∧ _ from h).1, ?_⟩
  rcases (show _ ∨ _ from h.2) with h2 | ⟨g, cap, cur, hv, hbg, hh, h3⟩
  · exact .inl h2
  · exact .inr ⟨g, cap, cur, hv, hbg, (hk g (by rw [hv]; rfl)).trans hh, h3⟩
def wF (s : SS) (A : Nat → Option Addr) (c : Nat → Nat) (i : Nat) : Value :=
  if i = 24 then .int .u64 s.num else if i % 3 = 0 then .int .i64 (s.t (i / 3)).how else if i % 3 = 1 then .int .u64 (s.t (i / 3)).snap else .slice (A (i / 3)) (s.t (i / 3)).wr.length (c (i / 3))
structure WInv (w : World) (base b m : Nat) (s : SS) (A : Nat → Option Addr) (c : Nat → Nat) : Prop where
  blk : Blk w base 142 b 25 (wF s A c)
  own : ∀ i, i < 8 → OwnP w base (A i) (c i) (s.t i).wr
  apart : ∀ i j, i < 8 → j < 8 → i ≠ j → (Value.slice (A i) (s.t i).wr.length (c i)).ownBlock = none ∨ (Value.slice (A i) (s.t i).wr.length (c i)).ownBlock ≠ (Value.slice (A j) (s.t j).wr.length (c j)).ownBlock
  len : ∀ i, i < 8 → (s.t i).wr.length ≤ m
  snap : ∀ i, i < 8 → 0 ≤ (s.t i).snap ∧ (s.t i).snap < 18446744073709551616
theorem WInv.cells {w : World} {base b m : Nat} {s : SS} {A : Nat → Option Addr} {c : Nat → Nat} (h : WInv w base b m s A c) : WldC w b s A c := by
  refine ⟨fun i hi => ?_, fun i hi => ?_, fun i hi => ?_, ?_⟩
  · rw [(h.blk.cell (j := i * 3) (by omega)).1]
    simp [wF, show ¬ i * 3 = 24 by omega]
  · rw [(h.blk.cell (j := i * 3 + 1) (by omega)).1]
    simp only [wF, show ¬ i * 3 + 1 = 24 by omega, if_false, show (i * 3 + 1) % 3 = 1 by omega, show (i * 3 + 1) / 3 = i by omega]
    simp
  · rw [(h.blk.cell (j := i * 3 + 2) (by omega)).1]
    simp only [wF, show ¬ i * 3 + 2 = 24 by omega, if_false, show (i * 3 + 2) % 3 = 2 by omega, show (i * 3 + 2) / 3 = i by omega]
    simp
  · rw [(h.blk.cell (j := 24) (by omega)).1]
    simp [wF]
theorem WInv.notb {w : World} {base b m : Nat} {s : SS} {A : Nat → Option Addr} {c : Nat → Nat} (h : WInv w base b m s A c) {i : Nat} (hi : i < 8) : (Value.slice (A i) (s.t i).wr.length (c i)).ownBlock ≠ some b := by
  rcases (show _ ∨ _ from (show _ ∧ _ from h.blk).2) with ⟨hc', _⟩ | ⟨g', cap', cur, hv', _, hh, _⟩
  · cases hc'
  · injection hv' with hv'
    injection hv' with hv'
    injection hv' with hv'
    rw [← hv'] at hh
    exact own_ne_blk (h.own i hi) hh (by decide)
theorem WInv.kept {w w' : World} {base b m : Nat} {s : SS} {A : Nat → Option Addr} {c : Nat → Nat} (h : WInv w base b m s A c) (hb : Below w.heap.size w w') : WInv w' base b m s A c :=
  ⟨h.blk.below h.blk.lt.2 hb, fun i hi => (h.own i hi).kept fun g hg => hb.block g (World.ownsRow.lt (h.own i hi) g hg).2, h.apart, h.len, h.snap⟩
theorem WInv.base' {w : World} {base base' b m : Nat} {s : SS} {A : Nat → Option Addr} {c : Nat → Nat} (h : WInv w base b m s A c) (hb : base' ≤ base) : WInv w base' b m s A c :=
  ⟨h.blk.base' hb, fun i hi => own_base (h.own i hi) hb, h.apart, h.len, h.snap⟩
theorem WInv.more {w : World} {base b m m' : Nat} {s : SS} {A : Nat → Option Addr} {c : Nat → Nat} (h : WInv w base b m s A c) (hm : m ≤ m') : WInv w base b m' s A c :=
  ⟨h.blk, h.own, h.apart, fun i hi => Nat.le_trans (h.len i hi) hm, h.snap⟩
theorem WInv.turn {w : World} {base b m : Nat} {s s' : SS} {A : Nat → Option Addr} {c : Nat → Nat} (h : WInv w base b m s A c) (j : Nat) (v : Value) (hv : ∀ i, i < 25 → (if i = j then v else wF s A c i) = wF s' A c i) (hw : ∀ i, i < 8 → (s'.t i).wr = (s.t i).wr)
    (hsn : ∀ i, i < 8 → 0 ≤ (s'.t i).snap ∧ (s'.t i).snap < 18446744073709551616) : WInv (w.setCell ⟨b, j, none⟩ v) base b m s' A c := by
  refine ⟨(h.blk.set j v).congr hv, fun i hi => ?_, fun i k hi hk hne => ?_, fun i hi => by rw [hw i hi]; exact h.len i hi, hsn⟩
  · rw [hw i hi]
    refine (h.own i hi).kept fun g hg => ?_
    have hgb : g ≠ b := fun e => h.notb hi (by rw [hg, e])
    exact Below.heap_setCell w ⟨b, j, none⟩ v g hgb
  · rw [hw i hi, hw k hk]
    exact h.apart i k hi hk hne
def setT (s : SS) (th : Nat) (t : TS) : SS := ⟨fun i => if i = th then t else s.t i, s.num⟩
theorem WInv.how' {w : World} {base b m : Nat} {s : SS} {A : Nat → Option Addr} {c : Nat → Nat} (h : WInv w base b m s A c) {th : Nat} (hth : th < 8) (x : Int) :
    WInv (w.setCell ⟨b, th * 3, none⟩ (.int .i64 x)) base b m (setT s th ⟨x, (s.t th).snap, (s.t th).wr⟩) A c := by
  refine h.turn _ _ (fun i hi => ?_) (fun i hi => ?_) (fun i hi => ?_)
  · by_cases e : i = 24
    · subst e
      rw [if_neg (by omega)]
      simp [wF, setT]
    · simp only [wF, e, if_false, setT]
      by_cases e2 : i / 3 = th
      · subst e2
        by_cases e3 : i % 3 = 0
        · rw [if_pos (by omega)]; simp [e3]
        · rw [if_neg (by omega)]; simp [e3]
      · rw [if_neg (by omega)]; simp [e2]
  · by_cases e : i = th
    · subst e; simp [setT]
    · simp [setT, e]
  · by_cases e : i = th
    · subst e; simp [setT]; exact h.snap i hi
    · simp [setT, e]; exact h.snap i hi
theorem WInv.snap' {w : World} {base b m : Nat} {s : SS} {A : Nat → Option Addr} {c : Nat → Nat} (h : WInv w base b m s A c) (th : Nat) (x : Int) (hx : 0 ≤ x ∧ x < 18446744073709551616) :
    WInv (w.setCell ⟨b, th * 3 + 1, none⟩ (.int .u64 x)) base b m (setT s th ⟨(s.t th).how, x, (s.t th).wr⟩) A c := by
  refine h.turn _ _ (fun i hi => ?_) (fun i hi => ?_) (fun i hi => ?_)
  · by_cases e : i = 24
    · subst e
      rw [if_neg (by omega)]
      simp [wF, setT]
    · simp only [wF, e, if_false, setT]
      by_cases e2 : i / 3 = th
      · subst e2
        by_cases e3 : i % 3 = 1
        · rw [if_pos (by omega)]; simp [e3]
        · rw [if_neg (by omega)]; simp [e3]
      · rw [if_neg (by omega)]; simp [e2]
  · by_cases e : i = th
    · subst e; simp [setT]
    · simp [setT, e]
  · by_cases e : i = th
    · subst e; simp [setT]; exact hx
    · simp [setT, e]; exact h.snap i hi
theorem WInv.num' {w : World} {base b m : Nat} {s : SS} {A : Nat → Option Addr} {c : Nat → Nat} (h : WInv w base b m s A c) (x : Int) :
    WInv (w.setCell ⟨b, 24, none⟩ (.int .u64 x)) base b m ⟨s.t, x⟩ A c := by
  refine h.turn _ _ (fun i hi => ?_) (fun i hi => rfl) h.snap
  by_cases e : i = 24
  · subst e
    simp [wF]
  · simp [wF, e]
theorem WInv.list' {w w2 : World} {base b m : Nat} {s : SS} {A : Nat → Option Addr} {c : Nat → Nat} (h : WInv w base b m s A c) {th : Nat} (hth : th < 8) (A2 : Option Addr) (c2 : Nat) (l2 : List (Int × Int)) (hown : OwnP w2 base A2 c2 l2)
    (hgr : ∀ g, g < w.heap.size → (Value.slice (A th) (s.t th).wr.length (c th)).ownBlock ≠ some g → w2.heap[g]? = w.heap[g]?) (hl : l2.length ≤ m + 1)
    (hat : (Value.slice A2 l2.length c2).ownBlock = none ∨ (Value.slice A2 l2.length c2).ownBlock = (Value.slice (A th) (s.t th).wr.length (c th)).ownBlock ∨ ∃ g', (Value.slice A2 l2.length c2).ownBlock = some g' ∧ w.heap.size ≤ g') :
    WInv (w2.setCell ⟨b, th * 3 + 2, none⟩ (.slice A2 l2.length c2)) base b (m + 1) (setT s th ⟨(s.t th).how, (s.t th).snap, l2⟩) (fun i => if i = th then A2 else A i) (fun i => if i = th then c2 else c i) := by
  have hbw := h.blk.lt.2
  have hblk : Blk w2 base 142 b 25 (wF s A c) := h.blk.kept (hgr b hbw (h.notb hth))
  have h2b : (Value.slice A2 l2.length c2).ownBlock ≠ some b := by
    rcases hat with h1 | h1 | ⟨g', h1, h2⟩
    · rw [h1]; exact fun e => by cases e
    · rw [h1]; exact h.notb hth
    · rw [h1]
      intro e
      injection e with e
      omega
  have hne : ∀ i, i < 8 → i ≠ th → (Value.slice (A i) (s.t i).wr.length (c i)).ownBlock = none ∨ (Value.slice (A i) (s.t i).wr.length (c i)).ownBlock ≠ (Value.slice A2 l2.length c2).ownBlock := fun i hi hit => by
    rcases hat with h1 | h1 | ⟨g', h1, h2⟩
    · cases hq : (Value.slice (A i) (s.t i).wr.length (c i)).ownBlock with
      | none => exact .inl rfl
      | some g => rw [h1]; exact .inr (fun e => by cases e)
    · rw [h1]; exact h.apart i th hi hth hit
    · cases hq : (Value.slice (A i) (s.t i).wr.length (c i)).ownBlock with
      | none => exact .inl rfl
      | some g =>
        right
        rw [h1]
        intro e
        injection e with e
        have := (World.ownsRow.lt (h.own i hi) g hq).2
        omega
  refine ⟨(hblk.set _ _).congr fun i hi => ?_, fun i hi => ?_, fun i k hi hk hik => ?_, fun i hi => ?_, fun i hi => ?_⟩
  · by_cases e : i = 24
    · subst e
      rw [if_neg (by omega)]
      simp [wF, setT]
    · simp only [wF, e, if_false, setT]
      by_cases e2 : i / 3 = th
      · subst e2
        by_cases e3 : i % 3 = 2
        · rw [if_pos (by omega)]; simp [e3]
        · rw [if_neg (by omega)]
          by_cases e4 : i % 3 = 0
          · simp [e4]
          · have : i % 3 = 1 := by omega
            simp [this]
      · rw [if_neg (by omega)]; simp [e2]
  · by_cases e : i = th
    · subst e
      simp only [setT, if_true]
      exact hown.kept fun g hg => Below.heap_setCell w2 ⟨b, i * 3 + 2, none⟩ _ g (fun e => h2b (by rw [hg, e]))
    · simp only [setT, e, if_false]
      refine (h.own i hi).kept fun g hg => ?_
      have hgw := (World.ownsRow.lt (h.own i hi) g hg).2
      rw [Below.heap_setCell w2 ⟨b, th * 3 + 2, none⟩ _ g (fun e' => h.notb hi (by rw [hg, e']))]
      refine hgr g hgw fun e' => ?_
      rcases h.apart i th hi hth e with h1 | h1
      · rw [h1] at hg; cases hg
      · exact h1 (by rw [hg, e'])
  · simp only [setT]
    by_cases e : i = th
    · subst e
      simp only [if_true, show ¬ k = i from fun e' => hik e'.symm, if_false]
      rcases hne k hk (fun e' => hik e'.symm) with h1 | h1
      · cases hq : (Value.slice A2 l2.length c2).ownBlock with
        | none => exact .inl rfl
        | some g => rw [h1]; exact .inr (fun e => by cases e)
      · exact .inr (Ne.symm h1)
    · by_cases e' : k = th
      · subst e'
        simp only [e, if_true, if_false]
        exact hne i hi e
      · simp only [e, e', if_false]
        exact h.apart i k hi hk hik
  · simp only [setT]
    by_cases e : i = th
    · simp [e]; exact hl
    · simp only [e, if_false]
      exact Nat.le_succ_of_le (h.len i hi)
  · simp only [setT]
    by_cases e : i = th
    · subst e; simp; exact h.snap i hi
    · simp only [e, if_false]; exact h.snap i hi
end Go.Proofs.Ytjifpjfinffamaa
end
