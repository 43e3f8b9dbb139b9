/- Plain math: the edges that are needed, as graph.Needed finds them, node by node. -/
import Derived.Test.YtjifpjfinffamaaM4
namespace Go.Proofs.Ytjifpjfinffamaa
open Go.RowKit

/-- where edge i leads -/
def tg (l : List E) (i : Int) : Nat := (eg l i.toNat).t.toNat
structure St where
  rc : Nat → Option (Nat → Bool)
  nd : List Int
def beyB (l : List E) (rc : Nat → Option (Nat → Bool)) (row : List Int) (j : Nat) : Bool := row.any fun i => match rc (tg l i) with
  | some s => s j
  | none => false
def nxB (l : List E) (row : List Int) (j : Nat) : Bool := row.any fun i => decide (tg l i = j)
/-- what the first q edges of a row add -/
def ndR (l : List E) (b : Nat → Bool) (row : List Int) : Nat → List Int
  | 0 => []
  | q + 1 => ndR l b row q ++ (match row[q]? with
    | some i => if nxB l (row.take q) (tg l i) = false ∧ b (tg l i) = false then [i] else []
    | none => [])
def stp (l : List E) (s : St) (x : Nat) : St :=
  if (outRow l x l.length).length = 0 then s else
  { rc := fun y => if y = x then some fun j => nxB l (outRow l x l.length) j || beyB l s.rc (outRow l x l.length) j else s.rc y
    nd := s.nd ++ ndR l (beyB l s.rc (outRow l x l.length)) (outRow l x l.length) (outRow l x l.length).length }
def st0 : St := ⟨fun _ => none, []⟩
theorem beyB_next {l : List E} {rc : Nat → Option (Nat → Bool)} {row : List Int} {q : Nat} {i : Int} (hi : row[q]? = some i) (j : Nat) :
    beyB l rc (row.take (q + 1)) j = (beyB l rc (row.take q) j || (match rc (tg l i) with | some s => s j | none => false)) := by
  unfold beyB
  rw [List.take_add_one, hi, Option.toList_some, List.any_append]
  simp
theorem nxB_next {l : List E} {row : List Int} {q : Nat} {i : Int} (hi : row[q]? = some i) (j : Nat) :
    nxB l (row.take (q + 1)) j = (nxB l (row.take q) j || decide (tg l i = j)) := by
  unfold nxB
  rw [List.take_add_one, hi, Option.toList_some, List.any_append]
  simp
theorem ndR_next {l : List E} {b : Nat → Bool} {row : List Int} {q : Nat} {i : Int} (hi : row[q]? = some i) :
    ndR l b row (q + 1) = ndR l b row q ++ (if nxB l (row.take q) (tg l i) = false ∧ b (tg l i) = false then [i] else []) := by
  simp [ndR, hi]
theorem ndR_mem {l : List E} {b : Nat → Bool} {row : List Int} : ∀ {q : Nat} {i : Int}, i ∈ ndR l b row q → i ∈ row.take q
  | 0, _, h => by simp [ndR] at h
  | q + 1, i, h => by
    rw [ndR, List.mem_append] at h
    rw [List.take_add_one, List.mem_append]
    rcases h with h | h
    · exact .inl (ndR_mem h)
    · right
      cases hr : row[q]? with
      | none => rw [hr] at h; simp at h
      | some k =>
        rw [hr] at h
        simp only at h
        split at h
        · simpa using h
        · simp at h
theorem ndR_nodup {l : List E} {b : Nat → Bool} {row : List Int} : ∀ q, ((ndR l b row q).map fun i => (tg l i : Int)).Nodup
  | 0 => by simp [ndR]
  | q + 1 => by
    rw [ndR, List.map_append, List.nodup_append]
    refine ⟨ndR_nodup q, ?_, ?_⟩
    · cases hr : row[q]? with
      | none => simp
      | some k =>
        simp only
        split <;> simp
    · intro a ha c hc e
      subst e
      cases hr : row[q]? with
      | none => rw [hr] at hc; simp at hc
      | some k =>
        rw [hr] at hc
        simp only at hc
        split at hc
        · rename_i h0
          simp at hc
          rw [List.mem_map] at ha
          obtain ⟨u, hu, he⟩ := ha
          have hm := ndR_mem hu
          have h1 := h0.1
          unfold nxB at h1
          rw [List.any_eq_false] at h1
          have := h1 u hm
          simp at this
          omega
        · simp at hc
theorem ndR_len {N : Nat} {l : List E} {b : Nat → Bool} {row : List Int} (hr : ∀ i ∈ row, tg l i < N) (q : Nat) : (ndR l b row q).length ≤ N := by
  have := nodup_le N _ (ndR_nodup (l := l) (b := b) (row := row) q) (fun v hv => by
    rw [List.mem_map] at hv
    obtain ⟨i, hi, rfl⟩ := hv
    have := hr i (List.mem_of_mem_take (ndR_mem hi))
    omega)
  simpa using this
end Go.Proofs.Ytjifpjfinffamaa
