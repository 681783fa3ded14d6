/- Slices in memory: rows of one-cell elements, bytes, texts, rows of texts. For any program. -/
import Derived.Test.YtdfkdbdhaaiadaaDoorBase
import Derived.Test.YtdfkdbdhaaiadaaDoorBytes
import Derived.Test.YtdfkdbdhaaiadaaDoorAppend
import Derived.Lib.Hide
import Derived.IntWalk
namespace Go.Proofs.YtdfkdbdhaaiadaaDoor
open Go.RowKit

/-- The block in which a slice's elements lie. -/
def vblk : Value → Option Nat
  | .slice (some a) _ _ => some a.block
  | _ => none

/-- v is a slice whose elements are these cells. -/
def RowV (w : World) (v : Value) (xs : List Value) : Prop := ∃ ap cap, v = .slice ap xs.length cap ∧ Holds w ap xs.length xs ∧ xs.length ≤ cap ∧ (ap = none → cap = 0)

/-- v is a slice of these bytes. -/
def BytesV (w : World) (v : Value) (l : List UInt8) : Prop := RowV w v (l.map bv)

theorem Holds.keptS {S : Nat → Prop} {w w' : World} {ap : Option Addr} {n : Nat} {xs : List Value} (h : Holds w ap n xs) (hk : Kept S w w') (hS : ∀ ad, ap = some ad → ¬ S ad.block) : Holds w' ap n xs := by
  refine ⟨h.1, fun hn => ?_⟩
  obtain ⟨ad, rfl, hc⟩ := h.2 hn
  refine ⟨ad, rfl, fun j v hj => ?_⟩
  have hcj := hc j v hj
  have hbl : (ad.add j).block = ad.block := by unfold Addr.add; split <;> rfl
  rw [World.cell?_of_block (w := w) (hk.block _ (cell_lt hcj) (by rw [hbl]; exact hS ad rfl))]
  exact hcj

theorem RowV.kept {S : Nat → Prop} {w w' : World} {v : Value} {xs : List Value} (h : RowV w v xs) (hk : Kept S w w') (hS : ∀ b, vblk v = some b → ¬ S b) : RowV w' v xs := by
  obtain ⟨ap, cap, rfl, h1, h2, h3⟩ := h
  exact ⟨ap, cap, rfl, h1.keptS hk (fun ad e => by subst e; exact hS _ rfl), h2, h3⟩
theorem RowV.keptNo {w w' : World} {v : Value} {xs : List Value} (h : RowV w v xs) (hk : Kept NoBlock w w') : RowV w' v xs := h.kept hk (fun _ _ h => h)
theorem RowV.below {w w' : World} {v : Value} {xs : List Value} (h : RowV w v xs) (hB : Below w.heap.size w w') : RowV w' v xs := by
  obtain ⟨ap, cap, rfl, h1, h2, h3⟩ := h
  exact ⟨ap, cap, rfl, h1.below hB, h2, h3⟩
theorem RowV.drewN {w : World} {v : Value} {xs : List Value} (h : RowV w v xs) (n : Nat) : RowV (w.drewN n) v xs := h

theorem RowV.nil (w : World) : RowV w (.slice none 0 0) [] := ⟨none, 0, rfl, ⟨rfl, fun h => absurd h (Nat.lt_irrefl _)⟩, Nat.le_refl _, fun _ => rfl⟩

theorem RowV.lt {w : World} {v : Value} {xs : List Value} (h : RowV w v xs) (h0 : xs ≠ []) : ∃ b, vblk v = some b ∧ b < w.heap.size := by
  obtain ⟨ap, cap, rfl, h1, h2, h3⟩ := h
  obtain ⟨ad, rfl, hc⟩ := h1.2 (List.length_pos_iff.2 h0)
  have := cell_lt (hc 0 _ (List.getElem?_eq_getElem (List.length_pos_iff.2 h0)))
  have e : (ad.add 0).block = ad.block := by unfold Addr.add; split <;> rfl
  rw [e] at this
  exact ⟨ad.block, rfl, this⟩

/-- A slice as the walk has it: its parts. -/
theorem RowV.parts {w : World} {v : Value} {xs : List Value} (h : RowV w v xs) : ∃ ap cap, v = .slice ap xs.length cap ∧ xs.length ≤ cap ∧ (ap = none → cap = 0) := by
  obtain ⟨ap, cap, rfl, h1, h2, h3⟩ := h
  exact ⟨ap, cap, rfl, h2, h3⟩

theorem RowV.holds {w : World} {ap : Option Addr} {n cap : Nat} {xs : List Value} (h : RowV w (.slice ap n cap) xs) : Holds w ap n xs ∧ xs.length = n ∧ n ≤ cap ∧ (ap = none → cap = 0) := by
  obtain ⟨ap', cap', e, h1, h2, h3⟩ := h
  cases e
  exact ⟨h1, rfl, h2, h3⟩

theorem RowV.mk {w : World} {ap : Option Addr} {n cap : Nat} {xs : List Value} (h : Holds w ap n xs) (h1 : n ≤ cap) (h2 : ap = none → cap = 0) : RowV w (.slice ap n cap) xs := by
  obtain rfl : xs.length = n := h.1
  exact ⟨ap, cap, rfl, h, h1, h2⟩

/-- An element. -/
theorem RowV.cell {w : World} {ap : Option Addr} {n cap : Nat} {xs : List Value} (h : RowV w (.slice ap n cap) xs) {i : Nat} {v : Value} (hi : xs[i]? = some v) : ∃ ad, ap = some ad ∧ w.cell? (ad.add i) = some v := by
  obtain ⟨h1, h2, h3, h4⟩ := h.holds
  have hl := (List.getElem?_eq_some_iff.1 hi).1
  obtain ⟨ad, e, hc⟩ := h1.2 (by omega)
  exact ⟨ad, e, hc i v hi⟩

/-- The address of a part of a slice. -/
def partAt (ap : Option Addr) (lo cap : Nat) : Option Addr := if cap = lo then ap else ap.map (·.add lo)

theorem addr_add_add (a : Addr) (i j : Nat) : (a.add i).add j = a.add (i + j) := by
  obtain ⟨b, o, x⟩ := a
  by_cases hi : i = 0
  · subst hi; simp [Addr.add]
  · by_cases hj : j = 0
    · subst hj; simp [Addr.add]
    · simp [Addr.add, hi, hj, Nat.add_assoc]

/-- 'x[lo:hi]'. -/
theorem RowV.part {w : World} {ap : Option Addr} {n cap : Nat} {xs : List Value} (h : RowV w (.slice ap n cap) xs) (lo hi : Nat) (h1 : lo ≤ hi) (h2 : hi ≤ n) : RowV w (.slice (partAt ap lo cap) (hi - lo) (cap - lo)) ((xs.take hi).drop lo) := by
  obtain ⟨g1, g2, g3, g4⟩ := h.holds
  refine RowV.mk ⟨by rw [List.length_drop, List.length_take]; omega, fun hp => ?_⟩ (by omega) (fun hn => ?_)
  · obtain ⟨ad, rfl, hc⟩ := g1.2 (by omega)
    refine ⟨ad.add lo, by unfold partAt; rw [if_neg (by omega)]; rfl, fun j v hj => ?_⟩
    rw [addr_add_add]
    rw [List.getElem?_drop, List.getElem?_take] at hj
    split at hj
    · exact hc _ v hj
    · cases hj
  · unfold partAt at hn
    split at hn
    · omega
    · cases ap with
      | none => have := g4 rfl; omega
      | some a => cases hn

theorem RowV.tail {w : World} {ap : Option Addr} {n cap : Nat} {xs : List Value} (h : RowV w (.slice ap n cap) xs) (lo : Nat) (h2 : lo ≤ n) : RowV w (.slice (partAt ap lo cap) (n - lo) (cap - lo)) (xs.drop lo) := by
  have := h.part lo n h2 (Nat.le_refl _)
  rwa [List.take_of_length_le (by rw [h.holds.2.1]; exact Nat.le_refl _)] at this
theorem RowV.front {w : World} {ap : Option Addr} {n cap : Nat} {xs : List Value} (h : RowV w (.slice ap n cap) xs) (hi : Nat) (h2 : hi ≤ n) : RowV w (.slice ap hi cap) (xs.take hi) := by
  obtain ⟨g1, g2, g3, g4⟩ := h.holds
  refine RowV.mk ⟨by rw [List.length_take]; omega, fun hp => ?_⟩ (by omega) g4
  obtain ⟨ad, rfl, hc⟩ := g1.2 (by omega)
  refine ⟨ad, rfl, fun j v hj => hc j v ?_⟩
  rw [List.getElem?_take] at hj
  split at hj
  · exact hj
  · cases hj

theorem vblk_slice (ap : Option Addr) (n c : Nat) : vblk (.slice ap n c) = ap.map (·.block) := by cases ap <;> rfl
theorem partAt_blk {ap : Option Addr} {lo n n' cap c c' : Nat} : vblk (.slice (partAt ap lo cap) n c) = vblk (.slice ap n' c') := by
  rw [vblk_slice, vblk_slice]
  unfold partAt
  split
  · rfl
  · cases ap with
    | none => rfl
    | some a => show some (a.add lo).block = some a.block; unfold Addr.add; split <;> rfl

theorem RowV.front0 {w : World} {ap : Option Addr} {n cap : Nat} {xs : List Value} (h : RowV w (.slice ap n cap) xs) (hi : Nat) (h2 : hi ≤ n) : RowV w (.slice (partAt ap 0 cap) hi cap) (xs.take hi) := by
  have := h.part 0 hi (Nat.zero_le _) h2
  rwa [List.drop_zero, Nat.sub_zero, Nat.sub_zero] at this

theorem BytesV.front0 {w : World} {ap : Option Addr} {n cap : Nat} {l : List UInt8} (h : BytesV w (.slice ap n cap) l) (hi : Nat) (h2 : hi ≤ n) : BytesV w (.slice (partAt ap 0 cap) hi cap) (l.take hi) := by
  have := RowV.front0 h hi h2
  rwa [← List.map_take] at this
theorem BytesV.tail {w : World} {ap : Option Addr} {n cap : Nat} {l : List UInt8} (h : BytesV w (.slice ap n cap) l) (lo : Nat) (h2 : lo ≤ n) : BytesV w (.slice (partAt ap lo cap) (n - lo) (cap - lo)) (l.drop lo) := by
  have := RowV.tail h lo h2
  rwa [← List.map_drop] at this
theorem BytesV.part {w : World} {ap : Option Addr} {n cap : Nat} {l : List UInt8} (h : BytesV w (.slice ap n cap) l) (lo hi : Nat) (h1 : lo ≤ hi) (h2 : hi ≤ n) : BytesV w (.slice (partAt ap lo cap) (hi - lo) (cap - lo)) ((l.take hi).drop lo) := by
  have := RowV.part h lo hi h1 h2
  rwa [← List.map_take, ← List.map_drop] at this
theorem BytesV.kept {S : Nat → Prop} {w w' : World} {v : Value} {l : List UInt8} (h : BytesV w v l) (hk : Kept S w w') (hS : ∀ b, vblk v = some b → ¬ S b) : BytesV w' v l := RowV.kept h hk hS
theorem BytesV.keptNo {w w' : World} {v : Value} {l : List UInt8} (h : BytesV w v l) (hk : Kept NoBlock w w') : BytesV w' v l := RowV.keptNo h hk
theorem BytesV.below {w w' : World} {v : Value} {l : List UInt8} (h : BytesV w v l) (hB : Below w.heap.size w w') : BytesV w' v l := RowV.below h hB
theorem BytesV.parts {w : World} {v : Value} {l : List UInt8} (h : BytesV w v l) : ∃ ap cap, v = .slice ap l.length cap ∧ l.length ≤ cap ∧ (ap = none → cap = 0) := by
  have := RowV.parts h
  rwa [List.length_map] at this
theorem BytesV.nil (w : World) : BytesV w (.slice none 0 0) [] := RowV.nil w

/-- A block of two cells, both stored. -/
theorem two_stores {w : World} {g : Nat} {a b x y : Value} {T : TypeId} (h : w.heap[g]? = some (.cells #[a, b] T (0, 0))) :
    ((w.setCell ⟨g, 0, none⟩ x).setCell ⟨g, 1, none⟩ y).heap[g]? = some (.cells #[x, y] T (0, 0)) ∧ Kept (fun k => k = g) w ((w.setCell ⟨g, 0, none⟩ x).setCell ⟨g, 1, none⟩ y) := by
  refine ⟨?_, Kept.setCell (S := fun k => k = g) (p := ⟨g, 1, none⟩) (Kept.setCell (S := fun k => k = g) (p := ⟨g, 0, none⟩) (Kept.refl _ _) (fun _ => rfl) _) (fun _ => rfl) _⟩
  exact heap_setCell_same (heap_setCell_same h 0 x) 1 y

theorem Kept.ofB {w w' : World} (h : Below w.heap.size w w') : Kept NoBlock w w' := Kept.of_below h (fun _ h1 h2 => absurd h1 (by omega))
theorem Kept.toB {w w' : World} (h : Kept NoBlock w w') : Below w.heap.size w w' := h.below (Nat.le_refl _) (fun _ h => h.elim)
theorem Kept.anyS {S : Nat → Prop} {w w' : World} (h : Kept NoBlock w w') : Kept S w w' := h.mono (fun _ _ h => h.elim)

theorem partAt_zero (a : Option Addr) (m : Nat) : partAt a 0 m = a := by
  unfold partAt
  split
  · rfl
  · cases a with
    | none => rfl
    | some a => simp [Addr.add]
theorem BytesV.front {w : World} {ap : Option Addr} {n cap : Nat} {l : List UInt8} (h : BytesV w (.slice ap n cap) l) (hi : Nat) (h2 : hi ≤ n) : BytesV w (.slice ap hi cap) (l.take hi) := by
  have := h.front0 hi h2
  rwa [partAt_zero] at this

/-- The walk's own form of a part. -/
theorem fold_some (a : Addr) (l m : Nat) (hl : l ≠ 0) : (if m = l then some a else some { block := a.block, off := a.off + l, spot := none }) = partAt (some a) l m := by
  unfold partAt
  simp [Addr.add, hl]
theorem fold_some' (a : Addr) (l m : Nat) : (if m = l then some a else some (a.add l)) = partAt (some a) l m := rfl
theorem fold_part (a : Option Addr) (l m : Nat) : (if m = l then a else Option.map (fun x => x.add l) a) = partAt a l m := rfl
end Go.Proofs.YtdfkdbdhaaiadaaDoor
