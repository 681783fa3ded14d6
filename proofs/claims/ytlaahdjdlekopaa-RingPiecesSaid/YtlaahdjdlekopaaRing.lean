/- Rings of cells, by definition: no program. What a store into a ring's place does to the row that it holds. -/
import GoSem.Core.World
namespace Go.Proofs.Ytlaahdjdlekopaa

theorem mod_ne {a b m : Nat} (h : a < b) (hm : b - a < m) : a % m ≠ b % m := fun e => by
  have := Nat.sub_mod_eq_zero_of_mod_eq e.symm
  rw [Nat.mod_eq_of_lt hm] at this
  omega

section
variable {α : Type} (enc : α → Value) (cs : Array Value) (o m f : Nat) (L : List α) (v : α)

/-- The ring of m cells from o on holds the row L from place f on; each of its cells is some value's. -/
structure Ring : Prop where
  size : o + m ≤ cs.size
  typed : ∀ i, i < m → ∃ u, cs[o + i]? = some (enc u)
  row : ∀ i, (h : i < L.length) → cs[o + (f + i) % m]? = some (enc L[i])

theorem ring_typed_set (hs : o + m ≤ cs.size) (ht : ∀ i, i < m → ∃ u, cs[o + i]? = some (enc u)) {j : Nat} (hj : j < m) : ∀ i, i < m → ∃ u, (cs.setIfInBounds (o + j) (enc v))[o + i]? = some (enc u) := by
  intro i hi
  by_cases h : j = i
  · subst h; exact ⟨v, by rw [Array.getElem?_setIfInBounds_self_of_lt (by omega)]⟩
  · obtain ⟨u, hu⟩ := ht i hi
    exact ⟨u, by rw [Array.getElem?_setIfInBounds_ne (by omega)]; exact hu⟩

theorem Ring.push (h : Ring enc cs o m f L) (hlt : L.length < m) : Ring enc (cs.setIfInBounds (o + (f + L.length) % m) (enc v)) o m f (L ++ [v]) := by
  have hj : (f + L.length) % m < m := Nat.mod_lt _ (by omega)
  refine ⟨by simpa using h.size, ring_typed_set enc cs o m v h.size h.typed hj, fun i hi => ?_⟩
  simp only [List.length_append, List.length_cons, List.length_nil] at hi
  by_cases e : i = L.length
  · subst e
    rw [Array.getElem?_setIfInBounds_self_of_lt (by have := h.size; omega)]; simp
  · have hi' : i < L.length := by omega
    rw [Array.getElem?_setIfInBounds_ne (by have := mod_ne (a := f + i) (b := f + L.length) (m := m) (by omega) (by omega); omega), h.row i hi', List.getElem_append_left hi']

theorem Ring.unshift (h : Ring enc cs o m f L) (hlt : L.length < m) (hf : f < m) : Ring enc (cs.setIfInBounds (o + (f + m - 1) % m) (enc v)) o m ((f + m - 1) % m) (v :: L) := by
  have hj : (f + m - 1) % m < m := Nat.mod_lt _ (by omega)
  refine ⟨by simpa using h.size, ring_typed_set enc cs o m v h.size h.typed hj, fun i hi => ?_⟩
  cases i with
  | zero =>
    rw [Nat.add_zero, Nat.mod_mod, Array.getElem?_setIfInBounds_self_of_lt (by have := h.size; omega)]; simp
  | succ i =>
    have hi' : i < L.length := by simpa using hi
    have e : ((f + m - 1) % m + (i + 1)) % m = (f + i) % m := by
      rw [Nat.mod_add_mod, show f + m - 1 + (i + 1) = f + i + m by omega, Nat.add_mod_right]
    rw [e, Array.getElem?_setIfInBounds_ne ?_, h.row i hi']
    · simp
    · have := mod_ne (a := f + i) (b := f + m - 1) (m := m) (by omega) (by omega); omega

theorem Ring.pop (h : Ring enc cs o m f (L ++ [v])) (hle : (L ++ [v]).length ≤ m) (z : α) : Ring enc (cs.setIfInBounds (o + (f + L.length) % m) (enc z)) o m f L := by
  simp only [List.length_append, List.length_cons, List.length_nil] at hle
  have hj : (f + L.length) % m < m := Nat.mod_lt _ (by omega)
  refine ⟨by simpa using h.size, ring_typed_set enc cs o m z h.size h.typed hj, fun i hi => ?_⟩
  rw [Array.getElem?_setIfInBounds_ne (by have := mod_ne (a := f + i) (b := f + L.length) (m := m) (by omega) (by omega); omega), h.row i (by simp; omega), List.getElem_append_left hi]

theorem Ring.shift (h : Ring enc cs o m f (v :: L)) (hle : (v :: L).length ≤ m) (z : α) : Ring enc (cs.setIfInBounds (o + (f + 0) % m) (enc z)) o m ((f + 1) % m) L := by
  simp only [List.length_cons] at hle
  have hj : (f + 0) % m < m := Nat.mod_lt _ (by omega)
  refine ⟨by simpa using h.size, ring_typed_set enc cs o m z h.size h.typed hj, fun i hi => ?_⟩
  have e : ((f + 1) % m + i) % m = (f + (i + 1)) % m := by rw [Nat.mod_add_mod]; congr 1; omega
  rw [e, Array.getElem?_setIfInBounds_ne (by have := mod_ne (a := f + 0) (b := f + (i + 1)) (m := m) (by omega) (by omega); omega), h.row (i + 1) (by simp; omega)]
  simp

theorem Ring.set (h : Ring enc cs o m f L) (hle : L.length ≤ m) {i : Nat} (hi : i < L.length) : Ring enc (cs.setIfInBounds (o + (f + i) % m) (enc v)) o m f (L.set i v) := by
  have hj : (f + i) % m < m := Nat.mod_lt _ (by omega)
  refine ⟨by simpa using h.size, ring_typed_set enc cs o m v h.size h.typed hj, fun k hk => ?_⟩
  have hk' : k < L.length := by simpa using hk
  by_cases e : i = k
  · subst e
    rw [Array.getElem?_setIfInBounds_self_of_lt (by have := h.size; omega)]; simp
  · rw [Array.getElem?_setIfInBounds_ne, h.row k hk', List.getElem_set_ne e]
    rcases Nat.lt_or_gt_of_ne e with e | e
    · have := mod_ne (a := f + i) (b := f + k) (m := m) (by omega) (by omega); omega
    · have := mod_ne (a := f + k) (b := f + i) (m := m) (by omega) (by omega); omega

theorem Ring.swap (A B : List α) (x y : α) (h : Ring enc cs o m f (A ++ x :: y :: B)) (hle : (A ++ x :: y :: B).length ≤ m) :
    Ring enc ((cs.setIfInBounds (o + (f + A.length) % m) (enc y)).setIfInBounds (o + (f + (A.length + 1)) % m) (enc x)) o m f (A ++ y :: x :: B) := by
  have h1 := h.set enc cs o m f _ y hle (i := A.length) (by simp)
  have h2 := h1.set enc _ o m f _ x (by simpa using hle) (i := A.length + 1) (by simp)
  simpa [List.set_append] using h2

theorem ring_of_row {n i k : Nat} (ht : cs.toList.take n = L.map enc) (hn : L.length = n) (hik : i ≤ k) (hk : k ≤ n) (hs : n ≤ cs.size) : Ring enc cs i (k - i) 0 ((L.take k).drop i) := by
  have key : ∀ j, (h : j < n) → cs[j]? = some (enc (L[j]'(by omega))) := by
    intro j hj
    have h1 : (cs.toList.take n)[j]? = cs[j]? := by rw [List.getElem?_take, if_pos hj, Array.getElem?_toList]
    rw [← h1, ht, List.getElem?_map, List.getElem?_eq_getElem (by omega)]
    rfl
  refine ⟨by omega, fun j hj => ⟨_, key (i + j) (by omega)⟩, fun j hj => ?_⟩
  rw [List.length_drop, List.length_take] at hj
  rw [Nat.zero_add, Nat.mod_eq_of_lt (by omega), key (i + j) (by omega)]
  simp
end
end Go.Proofs.Ytlaahdjdlekopaa
