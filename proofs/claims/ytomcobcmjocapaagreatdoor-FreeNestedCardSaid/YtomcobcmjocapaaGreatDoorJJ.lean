/- FreeNested's variables: their boxes. -/
import Derived.Test.YtomcobcmjocapaaGreatDoorII
set_option linter.unusedVariables false
namespace Go.Proofs.YtomcobcmjocapaaGreatDoor
open Go.RowKit Go.MuLone
/-- FreeNested's input and where its boxes lie -/
structure NX where
  H : Nat
  K : Nat
  m : Nat
  A : Option Addr
  B : Option Addr
  c : Nat
  d : Nat
  first : List Int
  gets : List Nat
  xa : Int
  xw : Int
  xp : Int
  xh : Int
  more : Bool
  a : Nat
  how : Int
  chg : Bool
  z : Value
def nxF (X : NX) (i : Nat) : Value := if i = 0 then .slice X.B X.gets.length X.d else if i = 1 then .int .u64 X.xa else if i = 2 then .int .u64 X.xw else if i = 3 then .bool X.more else if i = 4 then .int .u64 X.xp else .int .i64 X.xh
structure EnvR (w : World) (X : NX) (cl : Int) (fine : Bool) : Prop where
  f : w.cell? ⟨X.H, 0, none⟩ = some (.slice X.A X.first.length X.c)
  x : ∀ i, i < 6 → w.cell? ⟨X.H + 1, i, none⟩ = some (nxF X i)
  s : w.cell? ⟨X.H + 2, 0, none⟩ = some (.int .u64 X.first.length)
  m : w.cell? ⟨X.K, 0, none⟩ = some (.pointer (some ⟨X.m, 0, none⟩))
  a : w.cell? ⟨X.K + 1, 0, none⟩ = some (.int .u64 X.a)
  g : w.cell? ⟨X.K + 2, 0, none⟩ = some (.bool X.chg)
  h : w.cell? ⟨X.K + 3, 0, none⟩ = some (.int .i64 X.how)
  c : w.cell? ⟨X.K + 4, 0, none⟩ = some (.int .i64 cl) ∧ w.frozen? ⟨X.K + 4, 0, none⟩ = false
  fi : w.cell? ⟨X.K + 5, 0, none⟩ = some (.bool fine) ∧ w.frozen? ⟨X.K + 5, 0, none⟩ = false
  rf : RK .u64 w X.H X.A X.first
  rg : RK .u64 w X.H X.B (X.gets.map fun (n : Nat) => (n : Int))
  z : w.cell? ⟨X.K + 6, 0, none⟩ = some X.z
  hk : X.H + 3 ≤ X.K
def EnvK (X : NX) (k : Nat) : Prop := k = X.H ∨ k = X.H + 1 ∨ k = X.H + 2 ∨ (X.K ≤ k ∧ k < X.K + 7)
theorem cell_chan {w : World} {k i : Nat} {v : Value} {c : Nat} {buf : Array Value} {cl : Bool} {p q : Nat} {r : Bool} (h : w.cell? ⟨k, i, none⟩ = some v) (hc : w.heap[k]? = some (.chan c buf cl p q r)) : False := by
  simp [World.cell?, hc] at h
section
variable {w w' : World} {X : NX} {cl : Int} {fine : Bool} {S : Nat → Prop}
theorem EnvR.chan {k c : Nat} {buf : Array Value} {o : Bool} {p q : Nat} {r : Bool} (h : EnvR w X cl fine) (hc : w.heap[k]? = some (.chan c buf o p q r)) : ¬ EnvK X k := by
  rintro (rfl | rfl | rfl | ⟨h1, h2⟩)
  · exact cell_chan h.f hc
  · exact cell_chan (h.x 0 (by omega)) hc
  · exact cell_chan h.s hc
  · have : k = X.K ∨ k = X.K + 1 ∨ k = X.K + 2 ∨ k = X.K + 3 ∨ k = X.K + 4 ∨ k = X.K + 5 ∨ k = X.K + 6 := by omega
    rcases this with rfl | rfl | rfl | rfl | rfl | rfl | rfl
    · exact cell_chan h.m hc
    · exact cell_chan h.a hc
    · exact cell_chan h.g hc
    · exact cell_chan h.h hc
    · exact cell_chan h.c.1 hc
    · exact cell_chan h.fi.1 hc
    · exact cell_chan h.z hc
theorem EnvR.kept (h : EnvR w X cl fine) (hk : ∀ k, EnvK X k → w'.heap[k]? = w.heap[k]?) (hb : ∀ k, k < X.H → w'.heap[k]? = w.heap[k]?) : EnvR w' X cl fine := by
  have e : ∀ k i, EnvK X k → w'.cell? ⟨k, i, none⟩ = w.cell? ⟨k, i, none⟩ := fun k i hh => World.cell?_of_block (hk k hh)
  have z : ∀ k i, EnvK X k → w'.frozen? ⟨k, i, none⟩ = w.frozen? ⟨k, i, none⟩ := fun k i hh => World.frozen?_of_block (hk k hh)
  have r : ∀ p : Addr, p.block < X.H → w'.cell? p = w.cell? p := fun p hp => World.cell?_of_block (hb _ hp)
  have kk : ∀ i, i < 7 → EnvK X (X.K + i) := fun i hi => .inr (.inr (.inr ⟨by omega, by omega⟩))
  exact ⟨(e _ _ (.inl rfl)).trans h.f, fun i hi => (e _ _ (.inr (.inl rfl))).trans (h.x i hi), (e _ _ (.inr (.inr (.inl rfl)))).trans h.s, (e _ _ (kk 0 (by omega))).trans h.m, (e _ _ (kk 1 (by omega))).trans h.a,
    (e _ _ (kk 2 (by omega))).trans h.g, (e _ _ (kk 3 (by omega))).trans h.h, ⟨(e _ _ (kk 4 (by omega))).trans h.c.1, (z _ _ (kk 4 (by omega))).trans h.c.2⟩, ⟨(e _ _ (kk 5 (by omega))).trans h.fi.1, (z _ _ (kk 5 (by omega))).trans h.fi.2⟩,
    h.rf.keep r, h.rg.keep r, (e _ _ (kk 6 (by omega))).trans h.z, h.hk⟩
theorem EnvR.size (h : EnvR w X cl fine) : X.K + 6 < w.heap.size := World.block_lt_of_cell? w ⟨X.K + 6, 0, none⟩ h.z
theorem EnvR.ex (h : EnvR w X cl fine) (hx : Ex w w' S) (hS : ∀ k, S k → X.H ≤ k ∧ ¬ EnvK X k) : EnvR w' X cl fine := by
  have hs := h.size
  have hk := h.hk
  refine h.kept (fun k hh => hx.block k ?_ fun h2 => (hS k h2).2 hh) (fun k hh => hx.block k (by omega) fun h2 => by have := (hS k h2).1; omega)
  rcases hh with rfl | rfl | rfl | ⟨h1, h2⟩ <;> omega
theorem EnvR.setC (h : EnvR w X cl fine) (y : Int) : EnvR (w.setCell ⟨X.K + 4, 0, none⟩ (.int .i64 y)) X y fine := by
  have hs : ∀ k, k ≠ X.K + 4 → (w.setCell ⟨X.K + 4, 0, none⟩ (.int .i64 y)).heap[k]? = w.heap[k]? := fun k hk => Below.heap_setCell w ⟨X.K + 4, 0, none⟩ _ k hk
  have e : ∀ k i, k ≠ X.K + 4 → (w.setCell ⟨X.K + 4, 0, none⟩ (.int .i64 y)).cell? ⟨k, i, none⟩ = w.cell? ⟨k, i, none⟩ := fun k i hh => World.cell?_of_block (hs k hh)
  have hk := h.hk
  have r : ∀ p : Addr, p.block < X.H → (w.setCell ⟨X.K + 4, 0, none⟩ (.int .i64 y)).cell? p = w.cell? p := fun p hp => World.cell?_of_block (hs _ (by omega))
  exact ⟨(e _ _ (by omega)).trans h.f, fun i hi => (e _ _ (by omega)).trans (h.x i hi), (e _ _ (by omega)).trans h.s, (e _ _ (by omega)).trans h.m, (e _ _ (by omega)).trans h.a, (e _ _ (by omega)).trans h.g, (e _ _ (by omega)).trans h.h,
    ⟨World.cell?_setCell_same w ⟨X.K + 4, 0, none⟩ _ h.c.1, by rw [World.frozen?_setCell]; exact h.c.2⟩, ⟨(e _ _ (by omega)).trans h.fi.1, by rw [World.frozen?_setCell]; exact h.fi.2⟩, h.rf.keep r, h.rg.keep r, (e _ _ (by omega)).trans h.z, hk⟩
theorem EnvR.setF (h : EnvR w X cl fine) (y : Bool) : EnvR (w.setCell ⟨X.K + 5, 0, none⟩ (.bool y)) X cl y := by
  have hs : ∀ k, k ≠ X.K + 5 → (w.setCell ⟨X.K + 5, 0, none⟩ (.bool y)).heap[k]? = w.heap[k]? := fun k hk => Below.heap_setCell w ⟨X.K + 5, 0, none⟩ _ k hk
  have e : ∀ k i, k ≠ X.K + 5 → (w.setCell ⟨X.K + 5, 0, none⟩ (.bool y)).cell? ⟨k, i, none⟩ = w.cell? ⟨k, i, none⟩ := fun k i hh => World.cell?_of_block (hs k hh)
  have hk := h.hk
  have r : ∀ p : Addr, p.block < X.H → (w.setCell ⟨X.K + 5, 0, none⟩ (.bool y)).cell? p = w.cell? p := fun p hp => World.cell?_of_block (hs _ (by omega))
  exact ⟨(e _ _ (by omega)).trans h.f, fun i hi => (e _ _ (by omega)).trans (h.x i hi), (e _ _ (by omega)).trans h.s, (e _ _ (by omega)).trans h.m, (e _ _ (by omega)).trans h.a, (e _ _ (by omega)).trans h.g, (e _ _ (by omega)).trans h.h,
    ⟨(e _ _ (by omega)).trans h.c.1, by rw [World.frozen?_setCell]; exact h.c.2⟩, ⟨World.cell?_setCell_same w ⟨X.K + 5, 0, none⟩ _ h.fi.1, by rw [World.frozen?_setCell]; exact h.fi.2⟩, h.rf.keep r, h.rg.keep r, (e _ _ (by omega)).trans h.z, hk⟩
theorem EnvR.drewN (h : EnvR w X cl fine) (n : Nat) : EnvR (w.drewN n) X cl fine := h.kept (fun _ _ => rfl) (fun _ _ => rfl)
variable {lo b cb g sc ch : Nat} {ws : List Int} {ck st od sn e ov : Int} {sb : Bool} {I : TI} {R : List (Int × Int)} {D : Option (Int × Int)}
theorem mem_not_env (hm : MemR w (X.H + 3) X.m cb g sc ch ws ck st od sb) (he : EnvR w X cl fine) (hl : Lies X.K X.m cb g sc) : ¬ EnvK X X.m ∧ ¬ EnvK X cb ∧ ¬ EnvK X g ∧ ¬ EnvK X sc ∧ ¬ EnvK X ch := by
  have h1 := hm.blk.lt
  have h2 := hm.cel.lt
  have h3 := hm.lch
  obtain ⟨l1, l2, l3, l4⟩ := hl
  refine ⟨?_, ?_, ?_, ?_, he.chan hm.chn⟩
  all_goals (rintro (h | h | h | h) <;> omega)
theorem mem_env (hm : MemR w (X.H + 3) X.m cb g sc ch ws ck st od sb) (he : EnvR w X cl fine) (hl : Lies X.K X.m cb g sc) (hx : Ex w w' (EnvK X)) : MemR w' (X.H + 3) X.m cb g sc ch ws ck st od sb := by
  obtain ⟨h1, h2, h3, h4, h5⟩ := mem_not_env hm he hl
  exact hm.ex hx h1 h2 h3 h4 h5
theorem env_lt (he : EnvR w X cl fine) {k : Nat} (hk : EnvK X k) : X.H ≤ k ∧ k < X.K + 7 := by
  have := he.hk
  rcases hk with h | h | h | h <;> omega
theorem tx_env (ht : TxR w lo b X.m I sn R D e ov) (he : EnvR w X cl fine) (hlo : X.K + 7 ≤ lo) (hx : Ex w w' (EnvK X)) : TxR w' lo b X.m I sn R D e ov :=
  ht.ex hx fun k hk h2 => by have := (ht.lt hk).1; have := env_lt he h2; omega
theorem env_tx (he : EnvR w X cl fine) (ht : TxR w lo b X.m I sn R D e ov) (hlo : X.K + 7 ≤ lo) (hx : Ex w w' (TxS b I)) : EnvR w' X cl fine :=
  he.ex hx fun k hk => ⟨by have := (ht.lt hk).1; have := he.hk; omega, fun h2 => by have := (ht.lt hk).1; have := env_lt he h2; omega⟩
theorem env_mem {S : Nat → Prop} (he : EnvR w X cl fine) (hm : MemR w (X.H + 3) X.m cb g sc ch ws ck st od sb) (hl : Lies X.K X.m cb g sc) (hx : Ex w w' S) (hS : ∀ k, S k → k = X.m ∨ k = g ∨ k = sc ∨ k = ch) : EnvR w' X cl fine ∧ Below X.H w w' := by
  obtain ⟨h1, h2, h3, h4, h5⟩ := mem_not_env hm he hl
  have l1 := hm.blk.lt
  have l2 := hm.cel.lt
  have l3 := hm.lch
  have key : ∀ k, S k → X.H ≤ k ∧ ¬ EnvK X k := fun k hk => by
    rcases hS k hk with rfl | rfl | rfl | rfl
    · exact ⟨by omega, h1⟩
    · exact ⟨by omega, h3⟩
    · exact ⟨by omega, h4⟩
    · exact ⟨by omega, h5⟩
  exact ⟨he.ex hx key, hx.below (Below.refl _ _) (fun k hk h => by have := (key k h).1; omega) (by have := he.size; have := he.hk; omega)⟩
theorem tx_mem {S : Nat → Prop} (ht : TxR w lo b X.m I sn R D e ov) (hm : MemR w (X.H + 3) X.m cb g sc ch ws ck st od sb) (hl : Lies lo X.m cb g sc) (hx : Ex w w' S) (hS : ∀ k, S k → k = X.m ∨ k = g ∨ k = sc ∨ k = ch) : TxR w' lo b X.m I sn R D e ov := by
  obtain ⟨l1, l2, l3, l4⟩ := hl
  refine ht.ex hx fun k hk h2 => ?_
  have h := (ht.lt hk).1
  rcases hS k h2 with rfl | rfl | rfl | rfl
  · omega
  · omega
  · omega
  · obtain ⟨cs, E, fr, hh⟩ := ht.cells hk
    rw [hm.chn] at hh
    cases hh
theorem env_setF (he : EnvR w X cl fine) (y : Bool) : Ex w (w.setCell ⟨X.K + 5, 0, none⟩ (.bool y)) (EnvK X) := (Ex.refl w _).set _ _ fun _ => .inr (.inr (.inr ⟨by show X.K ≤ X.K + 5; omega, by show X.K + 5 < X.K + 7; omega⟩))
theorem env_setC (he : EnvR w X cl fine) (y : Int) : Ex w (w.setCell ⟨X.K + 4, 0, none⟩ (.int .i64 y)) (EnvK X) := (Ex.refl w _).set _ _ fun _ => .inr (.inr (.inr ⟨by show X.K ≤ X.K + 4; omega, by show X.K + 4 < X.K + 7; omega⟩))
theorem env_blw (he : EnvR w X cl fine) (hx : Ex w w' (EnvK X)) : Below X.H w w' := hx.below (Below.refl _ _) (fun k hk h => by have := (env_lt he h).1; omega) (by have := he.size; have := he.hk; omega)
theorem Lies.up {A B m cb g sc : Nat} (h : Lies A m cb g sc) (hl : A ≤ B) : Lies B m cb g sc := ⟨by have := h.1; omega, by have := h.2.1; omega, by have := h.2.2.1; omega, by have := h.2.2.2; omega⟩
end
end Go.Proofs.YtomcobcmjocapaaGreatDoor
