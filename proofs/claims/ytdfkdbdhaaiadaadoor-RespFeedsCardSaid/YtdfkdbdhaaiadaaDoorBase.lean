/- What a call keeps of memory, block by block; cells read off whole blocks. For any program. -/
import Derived.WalkKit
import Derived.Deep.Draws
import Derived.Laws.CopyOwn
namespace Go.Proofs.YtdfkdbdhaaiadaaDoor
open Go.RowKit

/-- All blocks that were there and are not in S lie as they lay; the streams are as they were. -/
structure Kept (S : Nat → Prop) (w w' : World) : Prop where
  os : w'.os = w.os
  tape : w'.tape = w.tape
  output : w'.output = w.output
  size : w.heap.size ≤ w'.heap.size
  block : ∀ k, k < w.heap.size → ¬ S k → w'.heap[k]? = w.heap[k]?

def NoBlock : Nat → Prop := fun _ => False

theorem Kept.refl (S : Nat → Prop) (w : World) : Kept S w w := ⟨rfl, rfl, rfl, Nat.le_refl _, fun _ _ _ => rfl⟩
theorem Kept.trans {S : Nat → Prop} {a b c : World} (h : Kept S a b) (k : Kept S b c) : Kept S a c :=
  ⟨k.os.trans h.os, k.tape.trans h.tape, k.output.trans h.output, Nat.le_trans h.size k.size,
   fun i hi hS => (k.block i (Nat.lt_of_lt_of_le hi h.size) hS).trans (h.block i hi hS)⟩
/-- The second step may also write what the first one made. -/
theorem Kept.trans' {S S' : Nat → Prop} {a b c : World} (h : Kept S a b) (k : Kept S' b c) (hS : ∀ i, i < a.heap.size → S' i → S i) : Kept S a c :=
  ⟨k.os.trans h.os, k.tape.trans h.tape, k.output.trans h.output, Nat.le_trans h.size k.size,
   fun i hi hn => (k.block i (Nat.lt_of_lt_of_le hi h.size) (fun hs => hn (hS i hi hs))).trans (h.block i hi hn)⟩
theorem Kept.mono {S S' : Nat → Prop} {a b : World} (h : Kept S a b) (hS : ∀ i, i < a.heap.size → S i → S' i) : Kept S' a b :=
  ⟨h.os, h.tape, h.output, h.size, fun i hi hn => h.block i hi (fun hs => hn (hS i hi hs))⟩
theorem Kept.drewN {S : Nat → Prop} {a w : World} (h : Kept S a w) (n : Nat) : Kept S a (w.drewN n) := ⟨h.os, h.tape, h.output, h.size, h.block⟩
theorem Kept.drew {S : Nat → Prop} {a w : World} (h : Kept S a w) : Kept S a w.drew := ⟨h.os, h.tape, h.output, h.size, h.block⟩
theorem Kept.alloc {S : Nat → Prop} {a w : World} (h : Kept S a w) (o : Obj) : Kept S a (w.alloc o) :=
  h.trans ⟨rfl, rfl, rfl, by simp, fun k hk _ => Below.heap_alloc _ _ _ hk⟩
theorem Kept.setCell {S : Nat → Prop} {a w : World} (h : Kept S a w) {p : Addr} (hp : p.block < a.heap.size → S p.block) (u : Value) : Kept S a (w.setCell p u) :=
  ⟨h.os, h.tape, h.output, by simpa [World.setCell] using h.size, fun k hk hn => by
    have hne : k ≠ p.block := fun e => hn (e ▸ hp (e ▸ hk))
    rw [Below.heap_setCell _ _ _ _ hne]; exact h.block k hk hn⟩
theorem Kept.grown {S : Nat → Prop} {a w w' : World} {row : Option Nat} (h : Kept S a w) (hg : w.grownBy w' row) (hr : ∀ k, row = some k → k < a.heap.size → S k) : Kept S a w' :=
  ⟨hg.os.trans h.os, hg.tape.trans h.tape, hg.output.trans h.output, Nat.le_trans h.size hg.size, fun k hk hn =>
    (hg.block k (Nat.lt_of_lt_of_le hk h.size) (fun e => hn (hr k e.symm hk))).trans (h.block k hk hn)⟩
theorem Kept.below {S : Nat → Prop} {a b : World} {B : Nat} (h : Kept S a b) (hB : B ≤ a.heap.size) (hS : ∀ i, S i → B ≤ i) : Below B a b :=
  ⟨h.os, h.tape, h.output, h.size, fun k hk => h.block k (Nat.lt_of_lt_of_le hk hB) (fun hs => by have := hS k hs; omega)⟩
theorem Kept.of_below {S : Nat → Prop} {a b : World} {B : Nat} (h : Below B a b) (hS : ∀ k, k < a.heap.size → B ≤ k → S k) : Kept S a b :=
  ⟨h.os, h.tape, h.output, h.size, fun k hk hn => h.block k (Nat.lt_of_not_le fun hle => hn (hS k hk hle))⟩

theorem lt_of_heap {w : World} {g : Nat} {o : Obj} (h : w.heap[g]? = some o) : g < w.heap.size := (Array.getElem?_eq_some_iff.1 h).1

/-- A block that was there and is not written. -/
theorem Kept.heap {S : Nat → Prop} {a b : World} {g : Nat} {o : Obj} (h : Kept S a b) (hg : a.heap[g]? = some o) (hS : ¬ S g) : b.heap[g]? = some o :=
  (h.block g (lt_of_heap hg) hS).trans hg

section
variable {w : World} {g : Nat} {cs : Array Value} {T : TypeId} {fz : Nat × Nat}
theorem cellB (h : w.heap[g]? = some (.cells cs T fz)) {i : Nat} {v : Value} (hi : cs[i]? = some v) : w.cell? ⟨g, i, none⟩ = some v := by
  simp [World.cell?, h, hi]
theorem frozenB (h : w.heap[g]? = some (.cells cs T (0, 0))) (i : Nat) : w.frozen? ⟨g, i, none⟩ = false := by
  simp [World.frozen?, h]
theorem heap_setCell_same (h : w.heap[g]? = some (.cells cs T fz)) (i : Nat) (v : Value) : (w.setCell ⟨g, i, none⟩ v).heap[g]? = some (.cells (cs.setIfInBounds i v) T fz) := by
  simp [World.setCell, Array.getElem?_modify, h]
theorem heap_setCell_ne (p : Addr) (v : Value) {k : Nat} (hne : k ≠ p.block) : (w.setCell p v).heap[k]? = w.heap[k]? := Below.heap_setCell _ _ _ _ hne
theorem heap_alloc_same (o : Obj) : (w.alloc o).heap[w.heap.size]? = some o := heap_alloc_new w o
theorem heap_alloc_lt (o : Obj) {k : Nat} (hk : k < w.heap.size) : (w.alloc o).heap[k]? = w.heap[k]? := Below.heap_alloc _ _ _ hk
theorem heap_drewN (n : Nat) : (w.drewN n).heap = w.heap := rfl
theorem heap_drew : w.drew.heap = w.heap := rfl
end

theorem blk1 {w : World} {g : Nat} {a : Value} {T : TypeId} (h : w.heap[g]? = some (.cells #[a] T (0, 0))) :
    w.cell? ⟨g, 0, none⟩ = some a ∧ w.frozen? ⟨g, 0, none⟩ = false := ⟨cellB h rfl, frozenB h 0⟩
theorem blk3 {w : World} {g : Nat} {a b c : Value} {T : TypeId} (h : w.heap[g]? = some (.cells #[a, b, c] T (0, 0))) :
    w.cell? ⟨g, 0, none⟩ = some a ∧ w.cell? ⟨g, 1, none⟩ = some b ∧ w.cell? ⟨g, 2, none⟩ = some c ∧
    w.frozen? ⟨g, 0, none⟩ = false ∧ w.frozen? ⟨g, 1, none⟩ = false ∧ w.frozen? ⟨g, 2, none⟩ = false :=
  ⟨cellB h rfl, cellB h rfl, cellB h rfl, frozenB h 0, frozenB h 1, frozenB h 2⟩

/-- What is owned is a slice of that length; where it has an element, it begins a row of its own. -/
theorem ownsRow_form {w : World} {base : Nat} {e : TypeId} {v : Value} {n : Nat} {xs : List Value} (h : w.ownsRow base e 1 v n xs) :
    ∃ ap cap, v = .slice ap n cap ∧ (0 < n → ∃ k cur, ap = some ⟨k, 0, none⟩ ∧ base ≤ k ∧ w.heap[k]? = some (.cells cur e (0, 0)) ∧ n ≤ cap ∧ cur.size = cap ∧ cur.toList.take n = xs) := by
  rcases h.2 with ⟨rfl, rfl⟩ | ⟨g, cap, cur, rfl, hb, hg, hn, _, hs, ht⟩
  · exact ⟨none, 0, rfl, fun h => by omega⟩
  · exact ⟨some ⟨g, 0, none⟩, cap, rfl, fun _ => ⟨g, cur, rfl, hb, hg, hn, by simpa using hs, by simpa using ht⟩⟩

/-- A slice value whose n elements are these cells. -/
def Holds (w : World) (ap : Option Addr) (n : Nat) (xs : List Value) : Prop :=
  xs.length = n ∧ (0 < n → ∃ ad, ap = some ad ∧ ∀ j v, xs[j]? = some v → w.cell? (ad.add j) = some v)

theorem ownsRow_holds {w : World} {base : Nat} {e : TypeId} {ap : Option Addr} {n cap : Nat} {xs : List Value} (h : w.ownsRow base e 1 (.slice ap n cap) n xs) : Holds w ap n xs := by
  refine ⟨by simpa using h.1, fun hn => ?_⟩
  rcases h.2 with ⟨h1, h2⟩ | ⟨g, cap', cur, he, hb, hg, hle, _, hs, ht⟩
  · omega
  · cases he
    exact ⟨⟨g, 0, none⟩, rfl, h.cells (g := g) rfl⟩

theorem ownsRow_lt {w : World} {base : Nat} {e : TypeId} {ap : Option Addr} {n cap : Nat} {xs : List Value} (h : w.ownsRow base e 1 (.slice ap n cap) n xs) : ∀ ad, ap = some ad → ad.block < w.heap.size ∧ base ≤ ad.block := by
  rintro ad rfl
  rcases h.2 with ⟨h1, _⟩ | ⟨g, cap', cur, he, hb, hg, _⟩
  · cases h1
  · cases he
    exact ⟨lt_of_heap hg, hb⟩

theorem owned_row {w : World} {base : Nat} {e : TypeId} {g n : Nat} {xs : List Value} (h : w.ownsRow base e 1 (.slice (some ⟨g, 0, none⟩) n n) n xs) : w.heap[g]? = some (.cells xs.toArray e (0, 0)) := by
  rcases h.2 with ⟨h1, _⟩ | ⟨g', cap, cur, he, hb, hg, hle, _, hs, ht⟩
  · cases h1
  · cases he
    rw [hg]
    have : cur.toList.take (n * 1) = cur.toList := List.take_of_length_le (by simp; omega)
    rw [this] at ht
    rw [← ht]

/-- 'copy(dst, src)' into a row that is known whole: an equation for the walk. -/
theorem run_copy_into {P : Program} {w : World} (dT sT ty elem : TypeId) (hu : P.underlying dT = some (.slice elem)) (hs : (P.info? elem).map (·.size) = some 1)
    (g o N capd : Nat) (ap : Option Addr) (n cap : Nat) (cur : Array Value) (t : TypeId) (X : List Value) (hg : w.heap[g]? = some (.cells cur t (0, 0))) (hX : Holds w ap n X)
    (hfit : o + min n N ≤ cur.size) (h1 : ∀ v ∈ X, v.oneCell' = true) :
    ∃ w', (Builtin.copy_ #[dT, sT] ty #[.slice (some ⟨g, o, none⟩) N capd, .slice ap n cap]).run P w = .ok (.int .i64 (min n N : Nat)) w' ∧
      w'.heap[g]? = some (.cells (cur.toList.take o ++ X.take (min n N) ++ cur.toList.drop (o + min n N)).toArray t (0, 0)) ∧ Kept (fun k => k = g) w w' := by
  by_cases h0 : min n N = 0
  · refine ⟨w, ?_, ?_, Kept.refl _ _⟩
    · rw [run_copy_none (P := P) w dT sT ty elem _ ap N capd n cap hu hs (by simpa [Nat.min_def] using h0), h0]; rfl
    · rw [h0]; simpa using hg
  · obtain ⟨ad, rfl, hc⟩ := hX.2 (by omega)
    have hlen : (X.take (min n N)).length = min n N := by rw [List.length_take, hX.1]; omega
    have hr := run_copy_row (P := P) w dT sT ty elem g o N capd ad n cap cur t (X.take (min n N)) hu hs hg (by rw [hlen])
      (fun j v hj => hc j v (by rw [List.getElem?_take] at hj; split at hj <;> simp_all)) (by rw [hlen]; exact hfit) (fun v hv => h1 v (List.mem_of_mem_take hv))
    rw [hlen] at hr
    exact ⟨_, hr, setRow_heap w g _ _ t _ hg, ⟨rfl, rfl, rfl, by simp [World.setRow], fun k _ hk => setRow_other w g k _ hk⟩⟩

theorem cell_lt {w : World} {a : Addr} {v : Value} (h : w.cell? a = some v) : a.block < w.heap.size := by
  rcases Nat.lt_or_ge a.block w.heap.size with hl | hl
  · exact hl
  · simp [World.cell?, Array.getElem?_eq_none hl] at h

theorem Holds.below {w w' : World} {ap : Option Addr} {n : Nat} {xs : List Value} (h : Holds w ap n xs) (hB : Below w.heap.size w w') : Holds w' ap n xs := by
  refine ⟨h.1, fun hn => ?_⟩
  obtain ⟨ad, rfl, hc⟩ := h.2 hn
  refine ⟨ad, rfl, fun j v hj => ?_⟩
  have hcj := hc j v hj
  rw [World.cell?_of_block (w := w) (hB.block _ (cell_lt hcj))]
  exact hcj

theorem Holds.take {w : World} {ap : Option Addr} {n : Nat} {xs : List Value} (h : Holds w ap n xs) (M : Nat) : Holds w ap (xs.take M).length (xs.take M) := by
  refine ⟨rfl, fun hn => ?_⟩
  obtain ⟨ad, rfl, hc⟩ := h.2 (by rw [← h.1]; rw [List.length_take] at hn; omega)
  refine ⟨ad, rfl, fun j v hj => hc j v ?_⟩
  rw [List.getElem?_take] at hj
  split at hj
  · exact hj
  · cases hj

theorem Holds.cell {w : World} {ap : Option Addr} {n : Nat} {xs : List Value} (h : Holds w ap n xs) {j : Nat} (hj : j < n) : ∃ ad, ap = some ad ∧ w.cell? (ad.add j) = some (xs[j]'(by rw [h.1]; exact hj)) := by
  obtain ⟨ad, rfl, hc⟩ := h.2 (by omega)
  exact ⟨ad, rfl, hc j _ (List.getElem?_eq_getElem _)⟩

theorem Kept.allocd (w : World) (o : Obj) : Kept NoBlock w (w.alloc o) := (Kept.refl NoBlock w).alloc o

end Go.Proofs.YtdfkdbdhaaiadaaDoor
