/- Bytes laid into a ring of cells by two copies, and read out of it by two: plain lists, no program. -/
import Derived.Test.YtlaahdjdlekopaaRing
namespace Go.Proofs.Ytlaahdjdlekopaa

/-- A list with x in place of what lay from o on. -/
def putL (cs : List Value) (o : Nat) (x : List Value) : List Value := cs.take o ++ x ++ cs.drop (o + x.length)

theorem putL_length (cs : List Value) (o : Nat) (x : List Value) (h : o + x.length ≤ cs.length) : (putL cs o x).length = cs.length := by
  simp only [putL, List.length_append, List.length_take, List.length_drop]; omega

theorem putL_get (cs : List Value) (o : Nat) (x : List Value) (h : o + x.length ≤ cs.length) (j : Nat) :
    (putL cs o x)[j]? = if j < o then cs[j]? else if j < o + x.length then x[j - o]? else cs[j]? := by
  have hl : (cs.take o).length = o := by rw [List.length_take]; omega
  unfold putL
  by_cases h1 : j < o
  · rw [if_pos h1, List.append_assoc, List.getElem?_append_left (by omega), List.getElem?_take, if_pos h1]
  · rw [if_neg h1, List.append_assoc, List.getElem?_append_right (by omega), hl]
    by_cases h2 : j < o + x.length
    · rw [if_pos h2, List.getElem?_append_left (by omega)]
    · rw [if_neg h2, List.getElem?_append_right (by omega), List.getElem?_drop]
      congr 1; omega

/-- What two copies make of a ring of cells. -/
def layL (cs : List Value) (m p : Nat) (b : List Value) : List Value :=
  putL (putL cs (p % m) (b.take (min b.length (m - p % m)))) 0 (b.drop (min b.length (m - p % m)))

section
variable {cs : List Value} {m p : Nat} {b : List Value}
theorem layL_length (h0 : 0 < m) (hm : cs.length = m) (hb : b.length ≤ m) : (layL cs m p b).length = m := by
  have ha := Nat.mod_lt p h0
  unfold layL
  rw [putL_length, putL_length]
  · exact hm
  · rw [List.length_take]; omega
  · rw [putL_length]
    · rw [List.length_drop]; omega
    · rw [List.length_take]; omega

theorem layL_get (h0 : 0 < m) (hm : cs.length = m) (hb : b.length ≤ m) (j : Nat) :
    (layL cs m p b)[j]? = if j < b.length - min b.length (m - p % m) then b[min b.length (m - p % m) + j]? else if p % m ≤ j ∧ j < p % m + min b.length (m - p % m) then b[j - p % m]? else cs[j]? := by
  have ha := Nat.mod_lt p h0
  have hk : (b.take (min b.length (m - p % m))).length = min b.length (m - p % m) := by rw [List.length_take]; omega
  have hk2 : (b.drop (min b.length (m - p % m))).length = b.length - min b.length (m - p % m) := by rw [List.length_drop]
  unfold layL
  rw [putL_get _ _ _ (by rw [putL_length _ _ _ (by omega)]; omega), if_neg (by omega), hk2, putL_get _ _ _ (by omega), hk, Nat.zero_add]
  by_cases h1 : j < b.length - min b.length (m - p % m)
  · rw [if_pos h1, if_pos h1, List.getElem?_drop]; rfl
  · rw [if_neg h1, if_neg h1]
    by_cases h2 : j < p % m
    · rw [if_pos h2, if_neg (by omega)]
    · rw [if_neg h2]
      by_cases h3 : j < p % m + min b.length (m - p % m)
      · rw [if_pos h3, if_pos (by omega), List.getElem?_take, if_pos (by omega)]
      · rw [if_neg h3, if_neg (by omega)]

theorem mod_add_cases (h0 : 0 < m) {i : Nat} (hi : i < m) : (p + i) % m = if p % m + i < m then p % m + i else p % m + i - m := by
  have ha := Nat.mod_lt p h0
  rw [Nat.add_mod, Nat.mod_eq_of_lt hi]
  by_cases h : p % m + i < m
  · rw [if_pos h, Nat.mod_eq_of_lt h]
  · rw [if_neg h, Nat.mod_eq_sub_mod (by omega), Nat.mod_eq_of_lt (by omega)]

theorem layL_new (h0 : 0 < m) (hm : cs.length = m) (hb : b.length ≤ m) {i : Nat} (hi : i < b.length) : (layL cs m p b)[(p + i) % m]? = b[i]? := by
  have ha := Nat.mod_lt p h0
  rw [layL_get h0 hm hb, mod_add_cases h0 (by omega)]
  by_cases h : p % m + i < m
  · rw [if_pos h, if_neg (by omega), if_pos (by omega)]
    congr 1; omega
  · rw [if_neg h, if_pos (by omega)]
    congr 1; omega

theorem layL_old (h0 : 0 < m) (hm : cs.length = m) (hb : b.length ≤ m) {j : Nat} (hj : ∀ i, i < b.length → (p + i) % m ≠ j) : (layL cs m p b)[j]? = cs[j]? := by
  have ha := Nat.mod_lt p h0
  rw [layL_get h0 hm hb]
  by_cases h1 : j < b.length - min b.length (m - p % m)
  · exfalso
    apply hj (m - p % m + j) (by omega)
    rw [mod_add_cases h0 (by omega), if_neg (by omega)]; omega
  · rw [if_neg h1]
    by_cases h2 : p % m ≤ j ∧ j < p % m + min b.length (m - p % m)
    · exfalso
      apply hj (j - p % m) (by omega)
      rw [mod_add_cases h0 (by omega), if_pos (by omega)]; omega
    · rw [if_neg h2]
end

theorem two_copies (Z cs : List Value) (N K1 a m o' : Nat) (hZ : Z.length = N) (hc : cs.length = m) (ha : a ≤ m) (hK : K1 = min (m - a) N) (hN : N ≤ m) (ho : o' = if N = K1 then 0 else K1) :
    (Z.take 0 ++ (cs.drop a).take K1 ++ Z.drop (0 + K1)).take o' ++ cs.take (min m (N - K1)) ++ (Z.take 0 ++ (cs.drop a).take K1 ++ Z.drop (0 + K1)).drop (o' + min m (N - K1)) = (cs.drop a).take K1 ++ cs.take (N - K1) := by
  have hA : ((cs.drop a).take K1).length = K1 := by rw [List.length_take, List.length_drop]; omega
  rw [List.take_zero, List.nil_append, Nat.zero_add, Nat.min_eq_right (show N - K1 ≤ m by omega)]
  by_cases h : N = K1
  · rw [if_pos h] at ho
    subst ho
    rw [show N - K1 = 0 by omega, List.take_zero, List.take_zero, List.nil_append, List.nil_append, List.drop_zero, List.drop_eq_nil_of_le (show Z.length ≤ K1 by omega)]
  · rw [if_neg h] at ho
    subst ho
    rw [List.take_left' hA, show o' + (N - o') = N by omega, List.drop_eq_nil_of_le (as := (cs.drop a).take o' ++ Z.drop o') (by rw [List.length_append, hA, List.length_drop]; omega), List.append_nil]

section
variable {α : Type} (enc : α → Value) {cs : Array Value} {m f : Nat} {L b : List α}

theorem Ring.none (h : Ring enc cs 0 m f L) (f' : Nat) : Ring enc cs 0 m f' [] := ⟨h.size, h.typed, fun i h => absurd h (by simp)⟩

theorem Ring.lay (h : Ring enc cs 0 m f L) (h0 : 0 < m) (hcs : cs.size = m) (hb : b.length ≤ m) (d : Nat) (hd : L.length + b.length ≤ m + d) :
    Ring enc (layL cs.toList m (f + L.length) (b.map enc)).toArray 0 m (f + d) ((L ++ b).drop d) := by
  have hl : cs.toList.length = m := by simpa using hcs
  have hbl : (b.map enc).length ≤ m := by simpa using hb
  refine ⟨by simp [layL_length h0 hl hbl], fun j hj => ?_, fun i hi => ?_⟩
  · rw [Nat.zero_add, List.getElem?_toArray]
    by_cases hx : ∃ i, i < b.length ∧ (f + L.length + i) % m = j
    · obtain ⟨i, hi, rfl⟩ := hx
      rw [layL_new h0 hl hbl (by simpa using hi)]
      exact ⟨b[i], by simp [hi]⟩
    · rw [layL_old h0 hl hbl (fun i hi he => hx ⟨i, by simpa using hi, he⟩)]
      obtain ⟨u, hu⟩ := h.typed j hj
      exact ⟨u, by simpa using hu⟩
  · rw [Nat.zero_add, List.getElem?_toArray]
    simp only [List.length_drop, List.length_append] at hi
    by_cases hx : d + i < L.length
    · rw [layL_old h0 hl hbl (fun k hk he => ?_)]
      · have := h.row (d + i) hx
        rw [Nat.zero_add, ← Nat.add_assoc] at this
        rw [Array.getElem?_toList, this]
        simp [List.getElem_append_left hx]
      · rw [List.length_map] at hk
        exact mod_ne (a := f + d + i) (b := f + L.length + k) (m := m) (by omega) (by omega) he.symm
    · have hpos : f + d + i = f + L.length + (d + i - L.length) := by omega
      rw [hpos, layL_new h0 hl hbl (by rw [List.length_map]; omega)]
      simp [List.getElem_append_right (show L.length ≤ d + i by omega), show d + i - L.length < b.length by omega]

/-- The bytes from a place on, by two copies. -/
theorem Ring.bytes (h : Ring enc cs 0 m f L) (h0 : 0 < m) (hcs : cs.size = m) (hL : L.length ≤ m) (j : Nat) (hj : j ≤ L.length) :
    (cs.toList.drop ((f + j) % m)).take (min (L.length - j) (m - (f + j) % m)) ++ cs.toList.take (L.length - j - min (L.length - j) (m - (f + j) % m)) = (L.drop j).map enc := by
  have ha := Nat.mod_lt (f + j) h0
  have hl : cs.toList.length = m := by simpa using hcs
  have hg : ∀ i, (hi : i < L.length - j) → cs.toList[(f + j + i) % m]? = some (enc (L[j + i]'(by omega))) := by
    intro i hi
    have := h.row (j + i) (by omega)
    rw [Nat.zero_add, ← Nat.add_assoc] at this
    rw [Array.getElem?_toList]; exact this
  apply List.ext_getElem?
  intro i
  rw [List.getElem?_map, List.getElem?_drop]
  by_cases hi : i < L.length - j
  · rw [List.getElem?_eq_getElem (show j + i < L.length by omega), Option.map_some, ← hg i hi, mod_add_cases (p := f + j) (i := i) h0 (by omega)]
    by_cases h1 : i < min (L.length - j) (m - (f + j) % m)
    · rw [List.getElem?_append_left (by rw [List.length_take, List.length_drop]; omega), List.getElem?_take, if_pos h1, List.getElem?_drop, if_pos (by omega)]
    · rw [List.getElem?_append_right (by rw [List.length_take, List.length_drop]; omega), List.getElem?_take, List.length_take, List.length_drop, if_pos (by omega), if_neg (by omega)]
      congr 1; omega
  · rw [List.getElem?_eq_none (show L.length ≤ j + i by omega), Option.map_none, List.getElem?_eq_none]
    rw [List.length_append, List.length_take, List.length_take, List.length_drop]; omega
end
end Go.Proofs.Ytlaahdjdlekopaa
