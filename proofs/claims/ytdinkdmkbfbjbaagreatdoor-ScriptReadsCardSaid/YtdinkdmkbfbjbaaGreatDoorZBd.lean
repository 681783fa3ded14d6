/- Merged: What a call keeps of memory, block by block; cells read off whole blocks; 'append' of a slice whose cells are known, to a row that is owned; Slices of bytes as lists of bytes: conversions to and from strings, what a walk asks of them; Slices in memory: rows of one-cell elements, bytes, texts, rows of texts; Rows that the call owns, one cell an element, with a mark behind what is written (what a conversion of a string leaves) or a frozen head: 'append' to them; A strings.Builder that a call has made: what is written to it (its check of copies is cut in this program), and its text. -/
import Derived.WalkKit
import Derived.Deep.Draws
import Derived.Laws.CopyOwn
import Derived.Laws.AppendOwn
import Derived.Laws.AppendOwnNone
import Derived.OwnWalk
import Derived.Laws.BytesArg
import Derived.Laws.IdiomStrings
import Derived.Lib.ConvBytes
import Derived.Lib.Hide
import Derived.IntWalk
import Derived.Lib.FrozenHead2
import Derived.Test.YtdinkdmkbfbjbaaGreatDoorShelf
import Derived.Test.YtdinkdmkbfbjbaaGreatDoorProg
import Derived.Shelf.Strings.Builder1
set_option linter.all false
namespace Go.Proofs.YtdinkdmkbfbjbaaGreatDoor
open Go.RowKit

/-- All blocks that were there and are not in S lie as they lay; the streams are as they were. -/
structure Kept (S : Nat → Prop) (w w' : World) : Prop where
  os : w'.os = w.os
  tape : w'.tape = w.tape
  output : w'.output = w.output
  size : w.heap.size ≤ w'.heap.size
  block : ∀ k, k < w.heap.size → ¬ S k → w'.heap[k]? = w.heap[k]?

def NoBlock : Nat → Prop := fun _ => False

theorem Kept.refl (S : Nat → Prop) (w : World) : Kept S w w := ⟨rfl, rfl, rfl, Nat.le_refl _, fun _ _ _ => rfl⟩
theorem Kept.trans {S : Nat → Prop} {a b c : World} (h : Kept S a b) (k : Kept S b c) : Kept S a c :=
  ⟨k.os.trans h.os, k.tape.trans h.tape, k.output.trans h.output, Nat.le_trans h.size k.size,
   fun i hi hS => (k.block i (Nat.lt_of_lt_of_le hi h.size) hS).trans (h.block i hi hS)⟩
/-- The second step may also write what the first one made. -/
theorem Kept.trans' {S S' : Nat → Prop} {a b c : World} (h : Kept S a b) (k : Kept S' b c) (hS : ∀ i, i < a.heap.size → S' i → S i) : Kept S a c :=
  ⟨k.os.trans h.os, k.tape.trans h.tape, k.output.trans h.output, Nat.le_trans h.size k.size,
   fun i hi hn => (k.block i (Nat.lt_of_lt_of_le hi h.size) (fun hs => hn (hS i hi hs))).trans (h.block i hi hn)⟩
theorem Kept.mono {S S' : Nat → Prop} {a b : World} (h : Kept S a b) (hS : ∀ i, i < a.heap.size → S i → S' i) : Kept S' a b :=
  ⟨h.os, h.tape, h.output, h.size, fun i hi hn => h.block i hi (fun hs => hn (hS i hi hs))⟩
theorem Kept.drewN {S : Nat → Prop} {a w : World} (h : Kept S a w) (n : Nat) : Kept S a (w.drewN n) := ⟨h.os, h.tape, h.output, h.size, h.block⟩
theorem Kept.drew {S : Nat → Prop} {a w : World} (h : Kept S a w) : Kept S a w.drew := ⟨h.os, h.tape, h.output, h.size, h.block⟩
theorem Kept.alloc {S : Nat → Prop} {a w : World} (h : Kept S a w) (o : Obj) : Kept S a (w.alloc o) :=
  h.trans ⟨rfl, rfl, rfl, by simp, fun k hk _ => Below.heap_alloc _ _ _ hk⟩
theorem Kept.setCell {S : Nat → Prop} {a w : World} (h : Kept S a w) {p : Addr} (hp : p.block < a.heap.size → S p.block) (u : Value) : Kept S a (w.setCell p u) :=
  ⟨h.os, h.tape, h.output, by simpa [World.setCell] using h.size, fun k hk hn => by
    have hne : k ≠ p.block := fun e => hn (e ▸ hp (e ▸ hk))
    rw [Below.heap_setCell _ _ _ _ hne]; exact h.block k hk hn⟩
theorem Kept.grown {S : Nat → Prop} {a w w' : World} {row : Option Nat} (h : Kept S a w) (hg : w.grownBy w' row) (hr : ∀ k, row = some k → k < a.heap.size → S k) : Kept S a w' :=
  ⟨hg.os.trans h.os, hg.tape.trans h.tape, hg.output.trans h.output, Nat.le_trans h.size hg.size, fun k hk hn =>
    (hg.block k (Nat.lt_of_lt_of_le hk h.size) (fun e => hn (hr k e.symm hk))).trans (h.block k hk hn)⟩
theorem Kept.below {S : Nat → Prop} {a b : World} {B : Nat} (h : Kept S a b) (hB : B ≤ a.heap.size) (hS : ∀ i, S i → B ≤ i) : Below B a b :=
  ⟨h.os, h.tape, h.output, h.size, fun k hk => h.block k (Nat.lt_of_lt_of_le hk hB) (fun hs => by have := hS k hs; omega)⟩
theorem Kept.of_below {S : Nat → Prop} {a b : World} {B : Nat} (h : Below B a b) (hS : ∀ k, k < a.heap.size → B ≤ k → S k) : Kept S a b :=
  ⟨h.os, h.tape, h.output, h.size, fun k hk hn => h.block k (Nat.lt_of_not_le fun hle => hn (hS k hk hle))⟩

theorem lt_of_heap {w : World} {g : Nat} {o : Obj} (h : w.heap[g]? = some o) : g < w.heap.size := (Array.getElem?_eq_some_iff.1 h).1

/-- A block that was there and is not written. -/
theorem Kept.heap {S : Nat → Prop} {a b : World} {g : Nat} {o : Obj} (h : Kept S a b) (hg : a.heap[g]? = some o) (hS : ¬ S g) : b.heap[g]? = some o :=
  (h.block g (lt_of_heap hg) hS).trans hg

section
variable {w : World} {g : Nat} {cs : Array Value} {T : TypeId} {fz : Nat × Nat}
theorem cellB (h : w.heap[g]? = some (.cells cs T fz)) {i : Nat} {v : Value} (hi : cs[i]? = some v) : w.cell? ⟨g, i, none⟩ = some v := by
  simp [World.cell?, h, hi]
theorem frozenB (h : w.heap[g]? = some (.cells cs T (0, 0))) (i : Nat) : w.frozen? ⟨g, i, none⟩ = false := by
  simp [World.frozen?, h]
theorem heap_setCell_same (h : w.heap[g]? = some (.cells cs T fz)) (i : Nat) (v : Value) : (w.setCell ⟨g, i, none⟩ v).heap[g]? = some (.cells (cs.setIfInBounds i v) T fz) := by
  simp [World.setCell, Array.getElem?_modify, h]
theorem heap_setCell_ne (p : Addr) (v : Value) {k : Nat} (hne : k ≠ p.block) : (w.setCell p v).heap[k]? = w.heap[k]? := Below.heap_setCell _ _ _ _ hne
theorem heap_alloc_same (o : Obj) : (w.alloc o).heap[w.heap.size]? = some o := heap_alloc_new w o
theorem heap_alloc_lt (o : Obj) {k : Nat} (hk : k < w.heap.size) : (w.alloc o).heap[k]? = w.heap[k]? := Below.heap_alloc _ _ _ hk
theorem heap_drewN (n : Nat) : (w.drewN n).heap = w.heap := rfl
theorem heap_drew : w.drew.heap = w.heap := rfl
end

theorem blk1 {w : World} {g : Nat} {a : Value} {T : TypeId} (h : w.heap[g]? = some (.cells #[a] T (0, 0))) :
    w.cell? ⟨g, 0, none⟩ = some a ∧ w.frozen? ⟨g, 0, none⟩ = false := ⟨cellB h rfl, frozenB h 0⟩
theorem blk3 {w : World} {g : Nat} {a b c : Value} {T : TypeId} (h : w.heap[g]? = some (.cells #[a, b, c] T (0, 0))) :
    w.cell? ⟨g, 0, none⟩ = some a ∧ w.cell? ⟨g, 1, none⟩ = some b ∧ w.cell? ⟨g, 2, none⟩ = some c ∧
    w.frozen? ⟨g, 0, none⟩ = false ∧ w.frozen? ⟨g, 1, none⟩ = false ∧ w.frozen? ⟨g, 2, none⟩ = false :=
  ⟨cellB h rfl, cellB h rfl, cellB h rfl, frozenB h 0, frozenB h 1, frozenB h 2⟩

/-- What is owned is a slice of that length; where it has an element, it begins a row of its own. -/
theorem ownsRow_form {w : World} {base : Nat} {e : TypeId} {v : Value} {n : Nat} {xs : List Value} (h : w.ownsRow base e 1 v n xs) :
    ∃ ap cap, v = .slice ap n cap ∧ (0 < n → ∃ k cur, ap = some ⟨k, 0, none⟩ ∧ base ≤ k ∧ w.heap[k]? = some (.cells cur e (0, 0)) ∧ n ≤ cap ∧ cur.size = cap ∧ cur.toList.take n = xs) := by
  rcases h.2 with ⟨rfl, rfl⟩ | ⟨g, cap, cur, rfl, hb, hg, hn, _, hs, ht⟩
  · exact ⟨none, 0, rfl, fun h => by omega⟩
  · exact ⟨some ⟨g, 0, none⟩, cap, rfl, fun _ => ⟨g, cur, rfl, hb, hg, hn, by simpa using hs, by simpa using ht⟩⟩

/-- A slice value whose n elements are these cells. -/
def Holds (w : World) (ap : Option Addr) (n : Nat) (xs : List Value) : Prop :=
  xs.length = n ∧ (0 < n → ∃ ad, ap = some ad ∧ ∀ j v, xs[j]? = some v → w.cell? (ad.add j) = some v)

theorem ownsRow_holds {w : World} {base : Nat} {e : TypeId} {ap : Option Addr} {n cap : Nat} {xs : List Value} (h : w.ownsRow base e 1 (.slice ap n cap) n xs) : Holds w ap n xs := by
  refine ⟨by simpa using h.1, fun hn => ?_⟩
  rcases h.2 with ⟨h1, h2⟩ | ⟨g, cap', cur, he, hb, hg, hle, _, hs, ht⟩
  · omega
  · cases he
    exact ⟨⟨g, 0, none⟩, rfl, h.cells (g := g) rfl⟩

theorem ownsRow_lt {w : World} {base : Nat} {e : TypeId} {ap : Option Addr} {n cap : Nat} {xs : List Value} (h : w.ownsRow base e 1 (.slice ap n cap) n xs) : ∀ ad, ap = some ad → ad.block < w.heap.size ∧ base ≤ ad.block := by
  rintro ad rfl
  rcases h.2 with ⟨h1, _⟩ | ⟨g, cap', cur, he, hb, hg, _⟩
  · cases h1
  · cases he
    exact ⟨lt_of_heap hg, hb⟩

theorem owned_row {w : World} {base : Nat} {e : TypeId} {g n : Nat} {xs : List Value} (h : w.ownsRow base e 1 (.slice (some ⟨g, 0, none⟩) n n) n xs) : w.heap[g]? = some (.cells xs.toArray e (0, 0)) := by
  rcases h.2 with ⟨h1, _⟩ | ⟨g', cap, cur, he, hb, hg, hle, _, hs, ht⟩
  · cases h1
  · cases he
    rw [hg]
    have : cur.toList.take (n * 1) = cur.toList := List.take_of_length_le (by simp; omega)
    rw [this] at ht
    rw [← ht]

/-- 'copy(dst, src)' into a row that is known whole: an equation for the walk. -/
theorem run_copy_into {P : Program} {w : World} (dT sT ty elem : TypeId) (hu : P.underlying dT = some (.slice elem)) (hs : (P.info? elem).map (·.size) = some 1)
    (g o N capd : Nat) (ap : Option Addr) (n cap : Nat) (cur : Array Value) (t : TypeId) (X : List Value) (hg : w.heap[g]? = some (.cells cur t (0, 0))) (hX : Holds w ap n X)
    (hfit : o + min n N ≤ cur.size) (h1 : ∀ v ∈ X, v.oneCell' = true) :
    ∃ w', (Builtin.copy_ #[dT, sT] ty #[.slice (some ⟨g, o, none⟩) N capd, .slice ap n cap]).run P w = .ok (.int .i64 (min n N : Nat)) w' ∧
      w'.heap[g]? = some (.cells (cur.toList.take o ++ X.take (min n N) ++ cur.toList.drop (o + min n N)).toArray t (0, 0)) ∧ Kept (fun k => k = g) w w' := by
  by_cases h0 : min n N = 0
  · refine ⟨w, ?_, ?_, Kept.refl _ _⟩
    · rw [run_copy_none (P := P) w dT sT ty elem _ ap N capd n cap hu hs (by simpa [Nat.min_def] using h0), h0]; rfl
    · rw [h0]; simpa using hg
  · obtain ⟨ad, rfl, hc⟩ := hX.2 (by omega)
    have hlen : (X.take (min n N)).length = min n N := by rw [List.length_take, hX.1]; omega
    have hr := run_copy_row (P := P) w dT sT ty elem g o N capd ad n cap cur t (X.take (min n N)) hu hs hg (by rw [hlen])
      (fun j v hj => hc j v (by rw [List.getElem?_take] at hj; split at hj <;> simp_all)) (by rw [hlen]; exact hfit) (fun v hv => h1 v (List.mem_of_mem_take hv))
    rw [hlen] at hr
    exact ⟨_, hr, setRow_heap w g _ _ t _ hg, ⟨rfl, rfl, rfl, by simp [World.setRow], fun k _ hk => setRow_other w g k _ hk⟩⟩

theorem cell_lt {w : World} {a : Addr} {v : Value} (h : w.cell? a = some v) : a.block < w.heap.size := by
  rcases Nat.lt_or_ge a.block w.heap.size with hl | hl
  · exact hl
  · simp [World.cell?, Array.getElem?_eq_none hl] at h

theorem Holds.below {w w' : World} {ap : Option Addr} {n : Nat} {xs : List Value} (h : Holds w ap n xs) (hB : Below w.heap.size w w') : Holds w' ap n xs := by
  refine ⟨h.1, fun hn => ?_⟩
  obtain ⟨ad, rfl, hc⟩ := h.2 hn
  refine ⟨ad, rfl, fun j v hj => ?_⟩
  have hcj := hc j v hj
  rw [World.cell?_of_block (w := w) (hB.block _ (cell_lt hcj))]
  exact hcj

theorem Holds.take {w : World} {ap : Option Addr} {n : Nat} {xs : List Value} (h : Holds w ap n xs) (M : Nat) : Holds w ap (xs.take M).length (xs.take M) := by
  refine ⟨rfl, fun hn => ?_⟩
  obtain ⟨ad, rfl, hc⟩ := h.2 (by rw [← h.1]; rw [List.length_take] at hn; omega)
  refine ⟨ad, rfl, fun j v hj => hc j v ?_⟩
  rw [List.getElem?_take] at hj
  split at hj
  · exact hj
  · cases hj

theorem Holds.cell {w : World} {ap : Option Addr} {n : Nat} {xs : List Value} (h : Holds w ap n xs) {j : Nat} (hj : j < n) : ∃ ad, ap = some ad ∧ w.cell? (ad.add j) = some (xs[j]'(by rw [h.1]; exact hj)) := by
  obtain ⟨ad, rfl, hc⟩ := h.2 (by omega)
  exact ⟨ad, rfl, hc j _ (List.getElem?_eq_getElem _)⟩

theorem Kept.allocd (w : World) (o : Obj) : Kept NoBlock w (w.alloc o) := (Kept.refl NoBlock w).alloc o

end Go.Proofs.YtdinkdmkbfbjbaaGreatDoor
namespace Go.Proofs.YtdinkdmkbfbjbaaGreatDoor
open Go.RowKit

theorem wpList_append_holds {P : Program} {w : World} {ops : Array Oper} {rest : List Oper} {o : Oper} {a : Act} {Q : Exit → Act → World → Prop} (hgd : o.guard = none) (s x : Operand) (t : TypeId)
    (ho : o.op = .call { callee := .builtin .append, args := #[s, x], argTypes := #[t, t] })
    (base : Nat) (e : TypeId) (i : TypeInfo) (z : Value) (bytes : Nat) (ht : P.underlying t = some (.slice e)) (hi : P.info? e = some i) (hz : i.zero = some z)
    (hsize : i.size = 1) (hby : i.bytes = bytes) (hzs : z.cells.size = 1)
    (v : Value) (n : Nat) (xs : List Value) (hs : a.eval s = v) (hown : w.ownsRow base e 1 v n xs)
    (ap : Option Addr) (m c : Nat) (news : List Value) (hx : a.eval x = .slice ap m c) (hH : Holds w ap m news) (hnil : ap = none → c = 0) (h1 : ∀ u ∈ news, u.oneCell' = true)
    (h63 : n + m ≤ maxLen) (hbytes : (n + m) * bytes ≤ 140737488355328) (hbase : base ≤ w.heap.size)
    (h : ∀ v' w', w'.ownsRow base e 1 v' (n + m) (xs ++ news) → w.grownBy w' v.ownBlock → wpList P ops Q rest (a.put o.dst v') w') : wpList P ops Q (o :: rest) a w := by
  cases ap with
  | none =>
    have hm : m = 0 := by
      rcases Nat.eq_zero_or_pos m with h | h
      · exact h
      · obtain ⟨_, h, _⟩ := hH.2 h; cases h
    obtain rfl : c = 0 := hnil rfl
    subst hm
    have hn : news = [] := List.eq_nil_of_length_eq_zero hH.1
    subst hn
    exact wpList_append_own_none hgd s x t ho base e i 1 ht hi v n xs hs hown hx (h v w (by simpa using hown) (World.grownBy.refl _ _))
  | some ad =>
    refine wpList_append_own w hgd s x t ho base e i z 1 bytes ht hi hz hsize hby hzs (by decide) v n xs hs hown ad m c news hx (by simpa using hH.1) (fun j u hj => ?_) h1 h63 hbytes hbase (fun v' w' h2 h3 _ => h v' w' h2 h3)
    have : 0 < m := by rw [← hH.1]; exact Nat.lt_of_le_of_lt (Nat.zero_le j) (List.getElem?_eq_some_iff.1 hj).1
    obtain ⟨ad', e', hc⟩ := hH.2 this
    cases e'
    exact hc j u hj

theorem ownsRow_lower {w : World} {base base' : Nat} {e : TypeId} {v : Value} {n : Nat} {xs : List Value} (h : w.ownsRow base e 1 v n xs) (hb : base' ≤ base) : w.ownsRow base' e 1 v n xs := by
  refine ⟨h.1, ?_⟩
  rcases h.2 with h' | ⟨g, cap, cur, e1, e2, rest⟩
  · exact .inl h'
  · exact .inr ⟨g, cap, cur, e1, Nat.le_trans hb e2, rest⟩

/-- A part of a row that lies in a block. -/
theorem holds_row {w : World} {k : Nat} {cur : Array Value} {T : TypeId} {fz : Nat × Nat} {n : Nat} {xs : List Value} (h : w.heap[k]? = some (.cells cur T fz)) (ht : cur.toList.take n = xs) (hn : xs.length = n) (i m : Nat) (him : i + m ≤ n) :
    Holds w (some ⟨k, i, none⟩) m ((xs.drop i).take m) := by
  refine ⟨by rw [List.length_take, List.length_drop]; omega, fun _ => ⟨_, rfl, fun j v hj => ?_⟩⟩
  have hadd : Addr.add ⟨k, i, none⟩ j = ⟨k, i + j, none⟩ := by unfold Addr.add; split <;> simp_all
  rw [hadd]
  refine cellB h ?_
  rw [List.getElem?_take] at hj
  split at hj
  · rw [List.getElem?_drop, ← ht, List.getElem?_take] at hj
    split at hj
    · rw [← Array.getElem?_toList]; exact hj
    · cases hj
  · cases hj

theorem holds_fresh (w : World) (T : TypeId) (xs : List Value) : Holds (w.alloc (.cells xs.toArray T)) (some ⟨w.heap.size, 0, none⟩) xs.length xs := by
  refine ⟨rfl, fun _ => ⟨_, rfl, fun j v hj => ?_⟩⟩
  have : Addr.add ⟨w.heap.size, 0, none⟩ j = ⟨w.heap.size, j, none⟩ := by unfold Addr.add; split <;> simp_all
  rw [this]
  exact cellB (heap_alloc_new w _) (by simpa using hj)

theorem below_app0 {B : Nat} {w wi wj : World} {e : TypeId} {v : Value} {n : Nat} {xs : List Value} (hB : Below B w wi) (hBs : B ≤ wi.heap.size) (hown : wi.ownsRow B e 1 v n xs) (hg : wi.grownBy wj v.ownBlock) : Below B w wj :=
  hB.grown hg hBs (fun k h => (hown.lt k h).1)
theorem below_app {B : Nat} {w wi wj : World} {o : Obj} {e : TypeId} {v : Value} {n : Nat} {xs : List Value} (hB : Below B w wi) (hBs : B ≤ wi.heap.size) (hown : wi.ownsRow B e 1 v n xs) (hg : (wi.alloc o).grownBy wj v.ownBlock) : Below B w wj :=
  (hB.alloc hBs o).grown hg (by simp; omega) (fun k h => (hown.lt k h).1)
end Go.Proofs.YtdinkdmkbfbjbaaGreatDoor
namespace Go.Proofs.YtdinkdmkbfbjbaaGreatDoor
open Go.RowKit

/-- A byte's cell. -/
def bv (b : UInt8) : Value := .int .u8 b.toNat

theorem bv_one (l : List UInt8) : ∀ v ∈ l.map bv, v.oneCell' = true := by
  intro v hv
  obtain ⟨b, _, rfl⟩ := List.mem_map.1 hv
  rfl

theorem bv_inj {a b : List UInt8} (h : a.map bv = b.map bv) : a = b := by
  have hi : Function.Injective bv := fun x y hxy => by
    simp only [bv, Value.int.injEq, true_and] at hxy
    exact UInt8.toNat_inj.1 (Int.ofNat_inj.1 hxy)
  exact (List.map_inj_right (fun _ _ h => hi h)).1 h

theorem addr_add (b o j : Nat) : Addr.add ⟨b, o, none⟩ j = ⟨b, o + j, none⟩ := by unfold Addr.add; split <;> simp_all

/-- 'string(b)' of a slice whose cells are known. -/
theorem conv_bytes {P : Program} (w : World) (src dst e : TypeId) (hs : P.underlying src = some (.slice e)) (he : P.underlying e = some (.int .u8)) (hd : P.underlying dst = some .string)
    {ap : Option Addr} {n : Nat} (cap : Nat) {l : List UInt8} (h : Holds w ap n (l.map bv)) : (convert src dst (.slice ap n cap)).run P w = .ok (.string ⟨l.toArray⟩) w := by
  have hl : l.length = n := by simpa using h.1
  subst hl
  cases ap with
  | none =>
    have hz : l = [] := by
      cases l with
      | nil => rfl
      | cons a l => obtain ⟨_, h, _⟩ := h.2 (by simp); cases h
    subst hz
    exact run_convert_bytes_nil w src e hs he _ _ dst hd
  | some a =>
    refine run_convert_bytes_back w src dst e a cap l hs he hd (fun j hj => ?_)
    obtain ⟨a', e', hc⟩ := h.2 (by omega)
    cases e'
    exact hc j _ (by simp [List.getElem?_eq_getElem hj, bv])

theorem bytesWorld_kept (w : World) (e : TypeId) (s : ByteArray) : Kept NoBlock w (Lib.bytesWorld w e s) :=
  ⟨rfl, rfl, rfl, by rw [Lib.bytesWorld_size]; omega, fun k hk _ => Lib.bytesWorld_at_old w e s k hk⟩

theorem bytesWorld_holds (w : World) (e : TypeId) (s : ByteArray) : Holds (Lib.bytesWorld w e s) (some ⟨w.heap.size, 0, none⟩) s.size (s.data.toList.map bv) := by
  have hsz : s.size = s.data.toList.length := by rw [Array.length_toList]; rfl
  refine ⟨by rw [List.length_map, hsz], fun _ => ⟨_, rfl, fun j v hj => ?_⟩⟩
  rw [addr_add, Nat.zero_add]
  have hd : j < s.data.toList.length := by
    have := (List.getElem?_eq_some_iff.1 hj).1
    rwa [List.length_map] at this
  rw [Lib.bytesWorld_cell w e s j (by omega), List.getD_eq_getElem?_getD]
  rw [List.getElem?_map, List.getElem?_eq_getElem hd, Option.map_some] at hj
  rw [← Option.some.inj hj, List.getElem?_eq_getElem hd]
  rfl
end Go.Proofs.YtdinkdmkbfbjbaaGreatDoor
namespace Go.Proofs.YtdinkdmkbfbjbaaGreatDoor
open Go.RowKit

/-- The block in which a slice's elements lie. -/
def vblk : Value → Option Nat
  | .slice (some a) _ _ => some a.block
  | _ => none

/-- v is a slice whose elements are these cells. -/
def RowV (w : World) (v : Value) (xs : List Value) : Prop := ∃ ap cap, v = .slice ap xs.length cap ∧ Holds w ap xs.length xs ∧ xs.length ≤ cap ∧ (ap = none → cap = 0)

/-- v is a slice of these bytes. -/
def BytesV (w : World) (v : Value) (l : List UInt8) : Prop := RowV w v (l.map bv)

theorem Holds.keptS {S : Nat → Prop} {w w' : World} {ap : Option Addr} {n : Nat} {xs : List Value} (h : Holds w ap n xs) (hk : Kept S w w') (hS : ∀ ad, ap = some ad → ¬ S ad.block) : Holds w' ap n xs := by
  refine ⟨h.1, fun hn => ?_⟩
  obtain ⟨ad, rfl, hc⟩ := h.2 hn
  refine ⟨ad, rfl, fun j v hj => ?_⟩
  have hcj := hc j v hj
  have hbl : (ad.add j).block = ad.block := by unfold Addr.add; split <;> rfl
  rw [World.cell?_of_block (w := w) (hk.block _ (cell_lt hcj) (by rw [hbl]; exact hS ad rfl))]
  exact hcj

theorem RowV.kept {S : Nat → Prop} {w w' : World} {v : Value} {xs : List Value} (h : RowV w v xs) (hk : Kept S w w') (hS : ∀ b, vblk v = some b → ¬ S b) : RowV w' v xs := by
  obtain ⟨ap, cap, rfl, h1, h2, h3⟩ := h
  exact ⟨ap, cap, rfl, h1.keptS hk (fun ad e => by subst e; exact hS _ rfl), h2, h3⟩
theorem RowV.keptNo {w w' : World} {v : Value} {xs : List Value} (h : RowV w v xs) (hk : Kept NoBlock w w') : RowV w' v xs := h.kept hk (fun _ _ h => h)
theorem RowV.below {w w' : World} {v : Value} {xs : List Value} (h : RowV w v xs) (hB : Below w.heap.size w w') : RowV w' v xs := by
  obtain ⟨ap, cap, rfl, h1, h2, h3⟩ := h
  exact ⟨ap, cap, rfl, h1.below hB, h2, h3⟩
theorem RowV.drewN {w : World} {v : Value} {xs : List Value} (h : RowV w v xs) (n : Nat) : RowV (w.drewN n) v xs := h

theorem RowV.nil (w : World) : RowV w (.slice none 0 0) [] := ⟨none, 0, rfl, ⟨rfl, fun h => absurd h (Nat.lt_irrefl _)⟩, Nat.le_refl _, fun _ => rfl⟩

theorem RowV.lt {w : World} {v : Value} {xs : List Value} (h : RowV w v xs) (h0 : xs ≠ []) : ∃ b, vblk v = some b ∧ b < w.heap.size := by
  obtain ⟨ap, cap, rfl, h1, h2, h3⟩ := h
  obtain ⟨ad, rfl, hc⟩ := h1.2 (List.length_pos_iff.2 h0)
  have := cell_lt (hc 0 _ (List.getElem?_eq_getElem (List.length_pos_iff.2 h0)))
  have e : (ad.add 0).block = ad.block := by unfold Addr.add; split <;> rfl
  rw [e] at this
  exact ⟨ad.block, rfl, this⟩

/-- A slice as the walk has it: its parts. -/
theorem RowV.parts {w : World} {v : Value} {xs : List Value} (h : RowV w v xs) : ∃ ap cap, v = .slice ap xs.length cap ∧ xs.length ≤ cap ∧ (ap = none → cap = 0) := by
  obtain ⟨ap, cap, rfl, h1, h2, h3⟩ := h
  exact ⟨ap, cap, rfl, h2, h3⟩

theorem RowV.holds {w : World} {ap : Option Addr} {n cap : Nat} {xs : List Value} (h : RowV w (.slice ap n cap) xs) : Holds w ap n xs ∧ xs.length = n ∧ n ≤ cap ∧ (ap = none → cap = 0) := by
  obtain ⟨ap', cap', e, h1, h2, h3⟩ := h
  cases e
  exact ⟨h1, rfl, h2, h3⟩

theorem RowV.mk {w : World} {ap : Option Addr} {n cap : Nat} {xs : List Value} (h : Holds w ap n xs) (h1 : n ≤ cap) (h2 : ap = none → cap = 0) : RowV w (.slice ap n cap) xs := by
  obtain rfl : xs.length = n := h.1
  exact ⟨ap, cap, rfl, h, h1, h2⟩

/-- An element. -/
theorem RowV.cell {w : World} {ap : Option Addr} {n cap : Nat} {xs : List Value} (h : RowV w (.slice ap n cap) xs) {i : Nat} {v : Value} (hi : xs[i]? = some v) : ∃ ad, ap = some ad ∧ w.cell? (ad.add i) = some v := by
  obtain ⟨h1, h2, h3, h4⟩ := h.holds
  have hl := (List.getElem?_eq_some_iff.1 hi).1
  obtain ⟨ad, e, hc⟩ := h1.2 (by omega)
  exact ⟨ad, e, hc i v hi⟩

/-- The address of a part of a slice. -/
def partAt (ap : Option Addr) (lo cap : Nat) : Option Addr := if cap = lo then ap else ap.map (·.add lo)

theorem addr_add_add (a : Addr) (i j : Nat) : (a.add i).add j = a.add (i + j) := by
  obtain ⟨b, o, x⟩ := a
  by_cases hi : i = 0
  · subst hi; simp [Addr.add]
  · by_cases hj : j = 0
    · subst hj; simp [Addr.add]
    · simp [Addr.add, hi, hj, Nat.add_assoc]

/-- 'x[lo:hi]'. -/
theorem RowV.part {w : World} {ap : Option Addr} {n cap : Nat} {xs : List Value} (h : RowV w (.slice ap n cap) xs) (lo hi : Nat) (h1 : lo ≤ hi) (h2 : hi ≤ n) : RowV w (.slice (partAt ap lo cap) (hi - lo) (cap - lo)) ((xs.take hi).drop lo) := by
  obtain ⟨g1, g2, g3, g4⟩ := h.holds
  refine RowV.mk ⟨by rw [List.length_drop, List.length_take]; omega, fun hp => ?_⟩ (by omega) (fun hn => ?_)
  · obtain ⟨ad, rfl, hc⟩ := g1.2 (by omega)
    refine ⟨ad.add lo, by unfold partAt; rw [if_neg (by omega)]; rfl, fun j v hj => ?_⟩
    rw [addr_add_add]
    rw [List.getElem?_drop, List.getElem?_take] at hj
    split at hj
    · exact hc _ v hj
    · cases hj
  · unfold partAt at hn
    split at hn
    · omega
    · cases ap with
      | none => have := g4 rfl; omega
      | some a => cases hn

theorem RowV.tail {w : World} {ap : Option Addr} {n cap : Nat} {xs : List Value} (h : RowV w (.slice ap n cap) xs) (lo : Nat) (h2 : lo ≤ n) : RowV w (.slice (partAt ap lo cap) (n - lo) (cap - lo)) (xs.drop lo) := by
  have := h.part lo n h2 (Nat.le_refl _)
  rwa [List.take_of_length_le (by rw [h.holds.2.1]; exact Nat.le_refl _)] at this
theorem RowV.front {w : World} {ap : Option Addr} {n cap : Nat} {xs : List Value} (h : RowV w (.slice ap n cap) xs) (hi : Nat) (h2 : hi ≤ n) : RowV w (.slice ap hi cap) (xs.take hi) := by
  obtain ⟨g1, g2, g3, g4⟩ := h.holds
  refine RowV.mk ⟨by rw [List.length_take]; omega, fun hp => ?_⟩ (by omega) g4
  obtain ⟨ad, rfl, hc⟩ := g1.2 (by omega)
  refine ⟨ad, rfl, fun j v hj => hc j v ?_⟩
  rw [List.getElem?_take] at hj
  split at hj
  · exact hj
  · cases hj

theorem vblk_slice (ap : Option Addr) (n c : Nat) : vblk (.slice ap n c) = ap.map (·.block) := by cases ap <;> rfl
theorem partAt_blk {ap : Option Addr} {lo n n' cap c c' : Nat} : vblk (.slice (partAt ap lo cap) n c) = vblk (.slice ap n' c') := by
  rw [vblk_slice, vblk_slice]
  unfold partAt
  split
  · rfl
  · cases ap with
    | none => rfl
    | some a => show some (a.add lo).block = some a.block; unfold Addr.add; split <;> rfl

theorem RowV.front0 {w : World} {ap : Option Addr} {n cap : Nat} {xs : List Value} (h : RowV w (.slice ap n cap) xs) (hi : Nat) (h2 : hi ≤ n) : RowV w (.slice (partAt ap 0 cap) hi cap) (xs.take hi) := by
  have := h.part 0 hi (Nat.zero_le _) h2
  rwa [List.drop_zero, Nat.sub_zero, Nat.sub_zero] at this

theorem BytesV.front0 {w : World} {ap : Option Addr} {n cap : Nat} {l : List UInt8} (h : BytesV w (.slice ap n cap) l) (hi : Nat) (h2 : hi ≤ n) : BytesV w (.slice (partAt ap 0 cap) hi cap) (l.take hi) := by
  have := RowV.front0 h hi h2
  rwa [← List.map_take] at this
theorem BytesV.tail {w : World} {ap : Option Addr} {n cap : Nat} {l : List UInt8} (h : BytesV w (.slice ap n cap) l) (lo : Nat) (h2 : lo ≤ n) : BytesV w (.slice (partAt ap lo cap) (n - lo) (cap - lo)) (l.drop lo) := by
  have := RowV.tail h lo h2
  rwa [← List.map_drop] at this
theorem BytesV.part {w : World} {ap : Option Addr} {n cap : Nat} {l : List UInt8} (h : BytesV w (.slice ap n cap) l) (lo hi : Nat) (h1 : lo ≤ hi) (h2 : hi ≤ n) : BytesV w (.slice (partAt ap lo cap) (hi - lo) (cap - lo)) ((l.take hi).drop lo) := by
  have := RowV.part h lo hi h1 h2
  rwa [← List.map_take, ← List.map_drop] at this
theorem BytesV.kept {S : Nat → Prop} {w w' : World} {v : Value} {l : List UInt8} (h : BytesV w v l) (hk : Kept S w w') (hS : ∀ b, vblk v = some b → ¬ S b) : BytesV w' v l := RowV.kept h hk hS
theorem BytesV.keptNo {w w' : World} {v : Value} {l : List UInt8} (h : BytesV w v l) (hk : Kept NoBlock w w') : BytesV w' v l := RowV.keptNo h hk
theorem BytesV.below {w w' : World} {v : Value} {l : List UInt8} (h : BytesV w v l) (hB : Below w.heap.size w w') : BytesV w' v l := RowV.below h hB
theorem BytesV.parts {w : World} {v : Value} {l : List UInt8} (h : BytesV w v l) : ∃ ap cap, v = .slice ap l.length cap ∧ l.length ≤ cap ∧ (ap = none → cap = 0) := by
  have := RowV.parts h
  rwa [List.length_map] at this
theorem BytesV.nil (w : World) : BytesV w (.slice none 0 0) [] := RowV.nil w

/-- A block of two cells, both stored. -/
theorem two_stores {w : World} {g : Nat} {a b x y : Value} {T : TypeId} (h : w.heap[g]? = some (.cells #[a, b] T (0, 0))) :
    ((w.setCell ⟨g, 0, none⟩ x).setCell ⟨g, 1, none⟩ y).heap[g]? = some (.cells #[x, y] T (0, 0)) ∧ Kept (fun k => k = g) w ((w.setCell ⟨g, 0, none⟩ x).setCell ⟨g, 1, none⟩ y) := by
  refine ⟨?_, Kept.setCell (S := fun k => k = g) (p := ⟨g, 1, none⟩) (Kept.setCell (S := fun k => k = g) (p := ⟨g, 0, none⟩) (Kept.refl _ _) (fun _ => rfl) _) (fun _ => rfl) _⟩
  exact heap_setCell_same (heap_setCell_same h 0 x) 1 y

theorem Kept.ofB {w w' : World} (h : Below w.heap.size w w') : Kept NoBlock w w' := Kept.of_below h (fun _ h1 h2 => absurd h1 (by omega))
theorem Kept.toB {w w' : World} (h : Kept NoBlock w w') : Below w.heap.size w w' := h.below (Nat.le_refl _) (fun _ h => h.elim)
theorem Kept.anyS {S : Nat → Prop} {w w' : World} (h : Kept NoBlock w w') : Kept S w w' := h.mono (fun _ _ h => h.elim)

theorem partAt_zero (a : Option Addr) (m : Nat) : partAt a 0 m = a := by
  unfold partAt
  split
  · rfl
  · cases a with
    | none => rfl
    | some a => simp [Addr.add]
theorem BytesV.front {w : World} {ap : Option Addr} {n cap : Nat} {l : List UInt8} (h : BytesV w (.slice ap n cap) l) (hi : Nat) (h2 : hi ≤ n) : BytesV w (.slice ap hi cap) (l.take hi) := by
  have := h.front0 hi h2
  rwa [partAt_zero] at this

/-- The walk's own form of a part. -/
theorem fold_some (a : Addr) (l m : Nat) (hl : l ≠ 0) : (if m = l then some a else some { block := a.block, off := a.off + l, spot := none }) = partAt (some a) l m := by
  unfold partAt
  simp [Addr.add, hl]
theorem fold_some' (a : Addr) (l m : Nat) : (if m = l then some a else some (a.add l)) = partAt (some a) l m := rfl
theorem fold_part (a : Option Addr) (l m : Nat) : (if m = l then a else Option.map (fun x => x.add l) a) = partAt a l m := rfl
end Go.Proofs.YtdinkdmkbfbjbaaGreatDoor
namespace Go.Proofs.YtdinkdmkbfbjbaaGreatDoor
open Go.RowKit Go.Lib

/-- The slice value v owns the cells xs, one an element; no cell behind them is frozen. -/
def OwnM (w : World) (base : Nat) (e : TypeId) (v : Value) (n : Nat) (xs : List Value) : Prop :=
  xs.length = n ∧ ((v = .slice none 0 0 ∧ n = 0) ∨
   ∃ g cap cur fz, v = .slice (some ⟨g, 0, none⟩) n cap ∧ base ≤ g ∧ w.heap[g]? = some (.cells cur e fz) ∧ (fz.2 ≤ n ∨ cap ≤ fz.1) ∧ n ≤ cap ∧ cap ≤ maxLen ∧ cur.size = cap ∧ cur.toList.take n = xs)

section
variable {w : World} {base : Nat} {e : TypeId} {v : Value} {n : Nat} {xs : List Value}

theorem OwnM.of (h : w.ownsRow base e 1 v n xs) : OwnM w base e v n xs := by
  refine ⟨by simpa using h.1, ?_⟩
  rcases h.2 with ⟨h1, h2⟩ | ⟨g, cap, cur, hv, hb, hg, h1, h2, h3, h4⟩
  · exact .inl ⟨h1, h2⟩
  · exact .inr ⟨g, cap, cur, (0, 0), hv, hb, hg, .inl (Nat.zero_le _), h1, h2, by simpa using h3, by simpa using h4⟩

theorem OwnM.nil (w : World) (base : Nat) (e : TypeId) : OwnM w base e (.slice none 0 0) 0 [] := ⟨rfl, .inl ⟨rfl, rfl⟩⟩

theorem OwnM.lt (h : OwnM w base e v n xs) : ∀ k, v.ownBlock = some k → base ≤ k ∧ k < w.heap.size := by
  intro k hk
  rcases h.2 with ⟨rfl, _⟩ | ⟨g, cap, cur, fz, rfl, hb, hg, _⟩
  · simp [Value.ownBlock] at hk
  · simp [Value.ownBlock] at hk
    subst hk
    exact ⟨hb, (Array.getElem?_eq_some_iff.1 hg).1⟩

theorem OwnM.lower (h : OwnM w base e v n xs) {b : Nat} (hb : b ≤ base) : OwnM w b e v n xs := by
  refine ⟨h.1, ?_⟩
  rcases h.2 with hn | ⟨g, cap, cur, fz, h1, h2, rest⟩
  · exact .inl hn
  · exact .inr ⟨g, cap, cur, fz, h1, Nat.le_trans hb h2, rest⟩

theorem OwnM.keptS {S : Nat → Prop} {w' : World} (h : OwnM w base e v n xs) (hk : Kept S w w') (hS : ∀ k, base ≤ k → ¬ S k) : OwnM w' base e v n xs := by
  refine ⟨h.1, ?_⟩
  rcases h.2 with hn | ⟨g, cap, cur, fz, h1, h2, h3, rest⟩
  · exact .inl hn
  · exact .inr ⟨g, cap, cur, fz, h1, h2, hk.heap h3 (hS g h2), rest⟩
theorem OwnM.kept (h : OwnM w base e v n xs) {w' : World} (hk : Kept NoBlock w w') : OwnM w' base e v n xs := h.keptS hk (fun _ _ h => h)
theorem OwnM.drewN (h : OwnM w base e v n xs) (k : Nat) : OwnM (w.drewN k) base e v n xs := h
theorem OwnM.alloc (h : OwnM w base e v n xs) (o : Obj) : OwnM (w.alloc o) base e v n xs := h.kept ((Kept.refl _ w).alloc o)

theorem OwnM.holds {ap : Option Addr} {cap : Nat} (h : OwnM w base e (.slice ap n cap) n xs) : Holds w ap n xs := by
  refine ⟨h.1, fun hn => ?_⟩
  rcases h.2 with ⟨h1, h2⟩ | ⟨g, cap', cur, fz, he, hb, hg, hf, hle, _, hs, ht⟩
  · omega
  · cases he
    refine ⟨⟨g, 0, none⟩, rfl, fun j u hu => ?_⟩
    have hadd : (⟨g, 0, none⟩ : Addr).add j = ⟨g, j, none⟩ := by unfold Addr.add; split <;> simp_all
    rw [hadd]
    refine cellB hg ?_
    rw [← ht, List.getElem?_take] at hu
    split at hu
    · simpa using hu
    · cases hu

theorem OwnM.row (h : OwnM w base e v n xs) : RowV w v xs := by
  rcases h.2 with ⟨rfl, h0⟩ | ⟨g, cap, cur, fz, rfl, hb, hg, hf, hle, hc, hs, ht⟩
  · obtain rfl : xs = [] := List.eq_nil_of_length_eq_zero (by rw [h.1, h0])
    subst h0
    exact RowV.nil w
  · exact RowV.mk (OwnM.holds (cap := cap) h) hle (fun h => by cases h)

theorem OwnM.max (h : OwnM w base e v n xs) : n ≤ 9223372036854775807 := by
  rcases h.2 with ⟨_, rfl⟩ | ⟨g, cap, cur, fz, _, _, _, _, hle, hc, _⟩
  · omega
  · unfold maxLen at hc; omega

theorem OwnM.form (h : OwnM w base e v n xs) : ∃ ap cap, v = .slice ap n cap ∧ n ≤ cap ∧ (ap = none → cap = 0) := by
  rcases h.2 with ⟨rfl, rfl⟩ | ⟨g, cap, cur, fz, rfl, hb, hg, hf, hle, hc, hs, ht⟩
  · exact ⟨none, 0, rfl, Nat.le_refl _, fun _ => rfl⟩
  · exact ⟨_, cap, rfl, hle, fun h => by cases h⟩

theorem OwnM.blk (h : OwnM w base e v n xs) : ∀ k, vblk v = some k → base ≤ k ∧ k < w.heap.size := by
  intro k hk
  rcases h.2 with ⟨rfl, _⟩ | ⟨g, cap, cur, fz, rfl, hb, hg, _⟩
  · cases hk
  · cases hk
    exact ⟨hb, lt_of_heap hg⟩
theorem OwnM.typed (h : OwnM w base e v n xs) : ∀ k, vblk v = some k → ∃ cs fz, w.heap[k]? = some (.cells cs e fz) := by
  intro k hk
  rcases h.2 with ⟨rfl, _⟩ | ⟨g, cap, cur, fz, rfl, hb, hg, _⟩
  · cases hk
  · cases hk
    exact ⟨_, _, hg⟩
end

/-- What the call has written leaves old blocks as they lay. -/
theorem Kept.app {w0 w w' : World} {base : Nat} {e : TypeId} {v : Value} {n : Nat} {xs : List Value} {S : Nat → Prop} (hk : Kept S w0 w) (hown : OwnM w base e v n xs) (hb : w0.heap.size ≤ base) (hg : w.grownBy w' v.ownBlock) : Kept S w0 w' :=
  hk.grown hg (fun k e hlt => by have := (hown.lt k e).1; omega)

theorem run_storeCells_atM (P : Program) (g o : Nat) (t : TypeId) (fz : Nat × Nat) : ∀ (vs : List Value) (i : Nat) (cur : Array Value) (w : World), w.heap[g]? = some (.cells cur t fz) → (fz.2 ≤ o ∨ cur.size ≤ fz.1) → o + i + vs.length ≤ cur.size → (∀ v ∈ vs, v.oneCell' = true) →
    (storeCells ⟨g, o, none⟩ vs i).run P w = .ok () (w.setRow g (cur.toList.take (o + i) ++ vs ++ cur.toList.drop (o + i + vs.length)).toArray)
  | [], i, cur, w, hg, _, _, _ => by
    simp only [storeCells, List.append_nil, List.length_nil, Nat.add_zero, List.take_append_drop, Array.toArray_toList]
    rw [setRow_self w g cur t fz hg]
    rfl
  | v :: rest, i, cur, w, hg, hfz, hl, h1 => by
    have hi : o + i < cur.size := by simp at hl; omega
    have hadd : (⟨g, o, none⟩ : Addr).add i = ⟨g, o + i, none⟩ := by unfold Addr.add; split <;> simp_all
    have hcell : w.cell? ⟨g, o + i, none⟩ = some cur[o + i] := by simp [World.cell?, hg, hi]
    have hfro : w.frozen? ⟨g, o + i, none⟩ = false := by
      obtain ⟨lo, hi'⟩ := fz
      simp only [World.frozen?, hg, Bool.and_eq_false_iff, decide_eq_false_iff_not]
      simp only at hfz
      omega
    have hst : (store ((⟨g, o, none⟩ : Addr).add i) v).run P w = .ok () (w.setRow g (cur.setIfInBounds (o + i) v)) := by
      rw [hadd, run_store P w _ v _ (h1 v (by simp)), hcell]
      simp [hfro, setCell_eq_setRow w g (o + i) cur t fz v hg]
    have ih := run_storeCells_atM P g o t fz rest (i + 1) (cur.setIfInBounds (o + i) v) (w.setRow g (cur.setIfInBounds (o + i) v)) (setRow_heap w g cur _ t _ hg) (by simpa using hfz) (by simp at hl ⊢; omega) (fun x hx => h1 x (by simp [hx]))
    simp only [storeCells, Sem.run_bind, hst, Result.andThen_ok, ih, setRow_setRow]
    congr 3
    have e := list_seg_step cur.toList (o + i) v rest (by simp at hl ⊢; omega)
    simpa [Array.toList_setIfInBounds, Nat.add_assoc] using e

section
variable {P : Program} (w : World)

theorem grownM (n cap : Nat) (e : TypeId) (base : Nat) (z : Value) (hz : z.cells.size = 1) (xs news : List Value) (hys : (xs ++ news).length = n) (hn : n ≤ maxLen) (hbase : base ≤ w.heap.size) (row : Option Nat) :
    OwnM (w.drew.alloc (.cells (xs.toArray ++ news.toArray ++ Builtin.zeroCells z.cells (grownCap w n cap e - n)) e)) base e (.slice (some ⟨w.heap.size, 0, none⟩) n (grownCap w n cap e)) n (xs ++ news) ∧ w.grownBy (w.drew.alloc (.cells (xs.toArray ++ news.toArray ++ Builtin.zeroCells z.cells (grownCap w n cap e - n)) e)) row := by
  have hge := grownCap_ge w n cap e
  have hcm2 : grownCap w n cap e ≤ maxLen := grownCap_le_maxLen w n cap e hn
  refine ⟨⟨hys, .inr ⟨w.heap.size, _, _, (0, 0), rfl, hbase, heap_alloc_new w.drew _, .inl (Nat.zero_le _), hge, hcm2, ?_, ?_⟩⟩, ⟨rfl, rfl, rfl, by simp, fun k hk _ => Go.heap_alloc_old w.drew _ hk⟩⟩
  · rw [List.length_append] at hys
    simp only [Array.size_append, List.size_toArray, size_zeroCells, hz]
    omega
  · simp only [Array.toList_append]
    rw [← hys]
    exact List.take_left

theorem run_append_M (base : Nat) (t ty e : TypeId) (i : TypeInfo) (z : Value) (bytes : Nat) (ht : P.underlying t = some (.slice e)) (hi : P.info? e = some i) (hz : i.zero = some z)
    (hsize : i.size = 1) (hby : i.bytes = bytes) (hzs : z.cells.size = 1)
    (v : Value) (n : Nat) (xs : List Value) (hown : OwnM w base e v n xs)
    (a : Addr) (m c : Nat) (news : List Value) (hl : news.length = m) (hnews : ∀ j u, news[j]? = some u → w.cell? (a.add j) = some u) (h1 : ∀ u ∈ news, u.oneCell' = true)
    (h63 : n + m ≤ maxLen) (hbytes : (n + m) * bytes ≤ 140737488355328) (hbase : base ≤ w.heap.size) :
    ∃ v' w', (Builtin.append_ #[t, t] ty #[v, .slice (some a) m c]).run P w = .ok v' w' ∧ OwnM w' base e v' (n + m) (xs ++ news) ∧ w.grownBy w' v.ownBlock := by
  rcases hown.2 with ⟨rfl, rfl⟩ | ⟨g, cap, cur, fz, rfl, hbg, hg, hfz, hnc, hcm, hcs, htake⟩
  · obtain ⟨v', w', r1, r2, r3, r4⟩ := run_append_own (P := P) w base t ty e i z 1 bytes ht hi hz hsize hby hzs (by decide) (.slice none 0 0) 0 xs ⟨by simpa using hown.1, .inl ⟨rfl, rfl⟩⟩ a m c news (by simpa using hl) hnews h1 h63 hbytes hbase
    exact ⟨v', w', r1, OwnM.of r2, r3⟩
  · have hsmall : n + m ≤ 9223372036854775807 := by simp only [maxLen] at h63; omega
    have hlen : (xs ++ news).length = n + m := by rw [List.length_append, hown.1, hl]
    by_cases hroom : n + m ≤ cap
    · have hf := run_firstCells_some (P := P) w i.size m a m c news (by rw [hl, hsize, Nat.mul_one]) hnews
      have hst := run_storeCells_atM P g (n * i.size) e fz news 0 cur w hg (by rw [hcs, hsize, Nat.mul_one]; exact hfz) (by rw [hsize]; omega) h1
      simp only [Nat.add_zero] at hst
      have hr : (Builtin.append_ #[t, t] ty #[.slice (some ⟨g, 0, none⟩) n cap, .slice (some a) m c]).run P w = .ok (.slice (some ⟨g, 0, none⟩) (n + m) cap) (w.setRow g (cur.toList.take n ++ news ++ cur.toList.drop (n + news.length)).toArray) := by
        have hr0 : (Builtin.append_ #[t, t] ty #[.slice (some ⟨g, 0, none⟩) n cap, .slice (some a) m c]).run P w = .ok (.slice (some ⟨g, 0, none⟩) (n + m) cap) (w.setRow g (cur.toList.take (n * i.size) ++ news ++ cur.toList.drop (n * i.size + news.length)).toArray) := by
          simp [Builtin.append_, run_underlying ht, sizeOf, typeInfo, hi, Builtin.lenOf, hroom, hf, Addr.add_lit, hst]
        rw [hsize, Nat.mul_one] at hr0
        exact hr0
      refine ⟨_, _, hr, ⟨hlen, .inr ⟨g, cap, _, fz, rfl, hbg, setRow_heap w g cur _ e _ hg, hfz.imp (fun h => by omega) (fun h => h), hroom, hcm, ?_, ?_⟩⟩, ⟨rfl, rfl, rfl, by simp, fun k _ hk => setRow_other w g k _ (fun e => hk (by simp [Value.ownBlock, e]))⟩⟩
      · simp only [List.size_toArray, List.length_append, List.length_take, List.length_drop, Array.length_toList]
        omega
      · rw [htake, ← hlen]
        exact List.take_left
    · have holds : ∀ j u, xs[j]? = some u → w.cell? ((⟨g, 0, none⟩ : Addr).add j) = some u := by
        obtain ⟨ad, e1, h⟩ := (OwnM.holds (cap := cap) hown).2 |> fun f => (Nat.eq_zero_or_pos n).elim (fun h0 => (⟨⟨g, 0, none⟩, rfl, fun j v hj => by
          have : xs = [] := List.eq_nil_of_length_eq_zero (by rw [hown.1, h0])
          subst this; cases hj⟩ : ∃ ad, some (⟨g, 0, none⟩ : Addr) = some ad ∧ ∀ j v, xs[j]? = some v → w.cell? (ad.add j) = some v)) (fun h0 => f h0)
        cases e1
        exact h
      have hr := run_append_grow (P := P) w t ty e i z ht hi hz ⟨g, 0, none⟩ n cap xs (by rw [hsize, Nat.mul_one]; exact hown.1) holds a m c news (by rw [hsize, Nat.mul_one]; exact hl) hnews (by omega) (by omega) (growslice_fits (by omega) (by rw [hby]; exact hbytes))
      obtain ⟨g1, g2⟩ := grownM w (n + m) cap e base z hzs xs news hlen h63 hbase (Value.ownBlock (.slice (some ⟨g, 0, none⟩) n cap))
      exact ⟨_, _, hr, g1, g2⟩

theorem run_append_stringM (base : Nat) (t u ty e : TypeId) (i : TypeInfo) (ht : P.underlying t = some (.slice e)) (hu : P.underlying u = some .string) (hi : P.info? e = some i) (hz : i.zero = some (.int .u8 0))
    (hsize : i.size = 1) (hby : i.bytes = 1)
    (v : Value) (n : Nat) (xs : List Value) (hown : OwnM w base e v n xs) (s : ByteArray)
    (h63 : n + s.size ≤ maxLen) (hbytes : n + s.size ≤ 140737488355328) (hbase : base ≤ w.heap.size) :
    ∃ v' w', (Builtin.append_ #[t, u] ty #[v, .string s]).run P w = .ok v' w' ∧ OwnM w' base e v' (n + s.size) (xs ++ strCells s) ∧ w.grownBy w' v.ownBlock := by
  rcases hown.2 with ⟨rfl, rfl⟩ | ⟨g, cap, cur, fz, rfl, hbg, hg, hfz, hnc, hcm, hcs, htake⟩
  · obtain ⟨v', w', h1, h2, h3, h4⟩ := run_append_own_string (P := P) w base t u ty e i ht hu hi hz hsize hby (.slice none 0 0) 0 xs ⟨by simpa using hown.1, .inl ⟨rfl, rfl⟩⟩ s h63 hbytes hbase
    exact ⟨v', w', h1, OwnM.of h2, h3⟩
  · have hsmall : n + s.size ≤ 9223372036854775807 := by simp only [maxLen] at h63; omega
    have hlen : (xs ++ strCells s).length = n + s.size := by rw [List.length_append, hown.1, strCells_length]
    by_cases hroom : n + s.size ≤ cap
    · have hf := run_firstCells_string (P := P) w 1 s
      have hst := run_storeCells_atM P g n e fz (strCells s) 0 cur w hg (by rw [hcs]; exact hfz) (by rw [strCells_length]; omega) (strCells_oneCell s)
      simp only [Nat.add_zero, strCells_length] at hst
      have hr : (Builtin.append_ #[t, u] ty #[.slice (some ⟨g, 0, none⟩) n cap, .string s]).run P w = .ok (.slice (some ⟨g, 0, none⟩) (n + s.size) cap) (w.setRow g (cur.toList.take n ++ strCells s ++ cur.toList.drop (n + s.size)).toArray) := by
        simp [Builtin.append_, run_underlying ht, run_underlying hu, sizeOf, typeInfo, hi, hsize, Builtin.lenOf, hroom, hf, Addr.add_lit, hst]
      refine ⟨_, _, hr, ⟨hlen, .inr ⟨g, cap, _, fz, rfl, hbg, setRow_heap w g cur _ e _ hg, hfz.imp (fun h => by omega) (fun h => h), hroom, hcm, ?_, ?_⟩⟩, ⟨rfl, rfl, rfl, by simp, fun k _ hk => setRow_other w g k _ (fun e => hk (by simp [Value.ownBlock, e]))⟩⟩
      · simp only [List.size_toArray, List.length_append, List.length_take, List.length_drop, Array.length_toList, strCells_length]
        omega
      · rw [htake, ← hlen]
        exact List.take_left
    · have holds : ∀ j u, xs[j]? = some u → w.cell? ((⟨g, 0, none⟩ : Addr).add j) = some u := by
        obtain ⟨ad, e1, h⟩ := (OwnM.holds (cap := cap) hown).2 |> fun f => (Nat.eq_zero_or_pos n).elim (fun h0 => (⟨⟨g, 0, none⟩, rfl, fun j v hj => by
          have : xs = [] := List.eq_nil_of_length_eq_zero (by rw [hown.1, h0])
          subst this; cases hj⟩ : ∃ ad, some (⟨g, 0, none⟩ : Addr) = some ad ∧ ∀ j v, xs[j]? = some v → w.cell? (ad.add j) = some v)) (fun h0 => f h0)
        cases e1
        exact h
      have hr := run_append_grow_string (P := P) w t u ty e i (.int .u8 0) ht hu hi hz ⟨g, 0, none⟩ n cap xs (by rw [hsize, Nat.mul_one]; exact hown.1) holds s (by omega) (by omega) (by rw [hby]; exact growslice_fits (by omega) (by omega))
      obtain ⟨g1, g2⟩ := grownM w (n + s.size) cap e base (.int .u8 0) rfl xs (strCells s) hlen h63 hbase (Value.ownBlock (.slice (some ⟨g, 0, none⟩) n cap))
      exact ⟨_, _, hr, g1, g2⟩

/-- 'append(s, x...)' of a slice whose cells are known, nil or not. -/
theorem wpList_append_M {ops : Array Oper} {rest : List Oper} {o : Oper} {a : Act} {Q : Exit → Act → World → Prop} (hgd : o.guard = none) (s x : Operand) (t : TypeId)
    (ho : o.op = .call { callee := .builtin .append, args := #[s, x], argTypes := #[t, t] })
    (base : Nat) (e : TypeId) (i : TypeInfo) (z : Value) (bytes : Nat) (ht : P.underlying t = some (.slice e)) (hi : P.info? e = some i) (hz : i.zero = some z)
    (hsize : i.size = 1) (hby : i.bytes = bytes) (hzs : z.cells.size = 1)
    (v : Value) (n : Nat) (xs : List Value) (hs : a.eval s = v) (hown : OwnM w base e v n xs)
    (ap : Option Addr) (m c : Nat) (news : List Value) (hx : a.eval x = .slice ap m c) (hH : Holds w ap m news) (hnil : ap = none → c = 0) (h1 : ∀ u ∈ news, u.oneCell' = true)
    (h63 : n + m ≤ maxLen) (hbytes : (n + m) * bytes ≤ 140737488355328) (hbase : base ≤ w.heap.size)
    (h : ∀ v' w', OwnM w' base e v' (n + m) (xs ++ news) → w.grownBy w' v.ownBlock → wpList P ops Q rest (a.put o.dst v') w') : wpList P ops Q (o :: rest) a w := by
  cases ap with
  | none =>
    have hm : m = 0 := by
      rcases Nat.eq_zero_or_pos m with h | h
      · exact h
      · obtain ⟨_, h, _⟩ := hH.2 h; cases h
    obtain rfl : c = 0 := hnil rfl
    subst hm
    obtain rfl : news = [] := List.eq_nil_of_length_eq_zero hH.1
    have hr : (Builtin.append_ #[t, t] o.type #[v, .slice none 0 0]).run P w = .ok v w := by
      rcases hown.2 with ⟨rfl, rfl⟩ | ⟨g, cap, cur, fz, rfl, hbg, hg, hfz, hnc, hcm, hcs, htake⟩
      · simp [Builtin.append_, run_underlying ht, sizeOf, typeInfo, hi, Builtin.lenOf, Builtin.firstCells]
      · simp [Builtin.append_, run_underlying ht, sizeOf, typeInfo, hi, Builtin.lenOf, Builtin.firstCells, hnc, storeCells]
    refine wpList_plain hgd fun K hK => ?_
    unfold Oper.wp execOp
    simp only [ho, resolve, invoke, builtin, Sem.run_bind, Sem.run_pure, Result.andThen_ok, List.map_toArray, List.map_cons, List.map_nil, hs, hx, hr]
    exact hK _ _ (h v w (by simpa using hown) (World.grownBy.refl _ _))
  | some ad =>
    refine wpList_plain hgd fun K hK => ?_
    have hnews : ∀ j u, news[j]? = some u → w.cell? (ad.add j) = some u := fun j u hj => by
      have : 0 < m := by rw [← hH.1]; exact Nat.lt_of_le_of_lt (Nat.zero_le j) (List.getElem?_eq_some_iff.1 hj).1
      obtain ⟨ad', e', hc⟩ := hH.2 this
      cases e'
      exact hc j u hj
    obtain ⟨v', w', hr, h2, h3⟩ := run_append_M (P := P) w base t o.type e i z bytes ht hi hz hsize hby hzs v n xs hown ad m c news hH.1 hnews h1 h63 hbytes hbase
    unfold Oper.wp execOp
    simp only [ho, resolve, invoke, builtin, Sem.run_bind, Sem.run_pure, Result.andThen_ok, List.map_toArray, List.map_cons, List.map_nil, hs, hx, hr]
    exact hK _ _ (h v' w' h2 h3)

/-- 'append(s, text...)'. -/
theorem wpList_append_strM {ops : Array Oper} {rest : List Oper} {o : Oper} {a : Act} {Q : Exit → Act → World → Prop} (hgd : o.guard = none) (sl x : Operand) (t u : TypeId)
    (ho : o.op = .call { callee := .builtin .append, args := #[sl, x], argTypes := #[t, u] })
    (base : Nat) (e : TypeId) (i : TypeInfo) (ht : P.underlying t = some (.slice e)) (hu : P.underlying u = some .string) (hi : P.info? e = some i) (hz : i.zero = some (.int .u8 0))
    (hsize : i.size = 1) (hby : i.bytes = 1)
    (v : Value) (n : Nat) (xs : List Value) (hs : a.eval sl = v) (hown : OwnM w base e v n xs) (s : ByteArray) (hx : a.eval x = .string s)
    (h63 : n + s.size ≤ maxLen) (hbytes : n + s.size ≤ 140737488355328) (hbase : base ≤ w.heap.size)
    (h : ∀ v' w', OwnM w' base e v' (n + s.size) (xs ++ strCells s) → w.grownBy w' v.ownBlock → wpList P ops Q rest (a.put o.dst v') w') : wpList P ops Q (o :: rest) a w := by
  refine wpList_plain hgd fun K hK => ?_
  obtain ⟨v', w', hr, h2, h3⟩ := run_append_stringM (P := P) w base t u o.type e i ht hu hi hz hsize hby v n xs hown s h63 hbytes hbase
  unfold Oper.wp execOp
  simp only [ho, resolve, invoke, builtin, Sem.run_bind, Sem.run_pure, Result.andThen_ok, List.map_toArray, List.map_cons, List.map_nil, hs, hx, hr]
  exact hK _ _ (h v' w' h2 h3)
end

/-- '[]byte(text)': the row is owned. -/
theorem bytesWorld_own (w : World) (e : TypeId) (s : ByteArray) (h : s.size ≤ maxLen) : OwnM (Lib.bytesWorld w e s) w.heap.size e (.slice (some ⟨w.heap.size, 0, none⟩) s.size (grownCap w s.size 0 e)) s.size (s.data.toList.map bv) := by
  have hge := grownCap_ge w s.size 0 e
  have hsz : s.data.toList.length = s.size := by rw [Array.length_toList]; rfl
  have hcs : (bytesCells w e s).size = grownCap w s.size 0 e := by
    have : s.data.size = s.size := rfl
    simp only [bytesCells, Array.size_append, Array.size_map, Array.size_replicate, this]; omega
  refine ⟨by rw [List.length_map, hsz], .inr ⟨_, _, _, _, rfl, Nat.le_refl _, Lib.bytesWorld_at_new w e s, .inr (by rw [hcs]; exact Nat.le_refl _), hge, grownCap_le_maxLen w s.size 0 e h, hcs, ?_⟩⟩
  simp only [bytesCells, Array.toList_append, Array.toList_map]
  rw [← hsz, List.take_append_of_le_length (by rw [List.length_map]; exact Nat.le_refl _), List.take_of_length_le (by rw [List.length_map]; exact Nat.le_refl _)]
  rfl

/-- '[]byte("constant")': the row is owned, and marked. -/
theorem const_own (w : World) (e : TypeId) (xs : List Value) (h : xs.length ≤ maxLen) : OwnM (w.alloc (.cells xs.toArray e (xs.length, xs.length + 1))) w.heap.size e (.slice (some ⟨w.heap.size, 0, none⟩) xs.length xs.length) xs.length xs :=
  ⟨rfl, .inr ⟨_, _, _, _, rfl, Nat.le_refl _, heap_alloc_new w _, .inr (Nat.le_refl _), Nat.le_refl _, h, by simp, by simp⟩⟩

theorem strCells_bv (s : ByteArray) : strCells s = s.data.toList.map bv := by
  unfold strCells
  rfl
end Go.Proofs.YtdinkdmkbfbjbaaGreatDoor
namespace Go.Proofs.YtdinkdmkbfbjbaaGreatDoor
open Go.RowKit

theorem bdInfo : (Tryz.prog.info? 114).map (·.size) = some 2 := by kernel_rfl
theorem bdLies : liesAt Tryz.prog Tryz.prog.depth 114 (2 / Tryz.prog.cellsOf 114) 0 114 1 = true := by kernel_rfl
theorem byteInfo : (Tryz.prog.info? 5).map (fun i => (i.zero, i.size, i.bytes)) = some (some (.int .u8 0), 1, 1) := by kernel_rfl

set_option maxRecDepth 100000 in
theorem bd_used (b : Nat) (w : World) (h0 : w.cell? ⟨b, 0, none⟩ = some (.pointer (some ⟨b, 0, none⟩))) :
    Calls Tryz.prog 89 #[.pointer (some ⟨b, 0, none⟩)] w fun e w' => e = .returned (.tuple #[]) ∧ w' = w := by
  obtain ⟨j, hj, _⟩ := Option.map_eq_some_iff.1 bdInfo
  have hne := Lib.run_neq_ptr_same (P := Tryz.prog) w ⟨b, 0, none⟩ Tryz.underlying112 hj
  go_enter Tryz.func89, Tryz.ntmps89
  go_wp2
  go_end0
  exact ⟨rfl, rfl⟩

set_option maxRecDepth 100000 in
theorem bd_fresh (b : Nat) (w : World) (h0 : w.cell? ⟨b, 0, none⟩ = some (.pointer none)) (hsh : w.shape? b = some (114, 2)) (hfz : w.frozen? ⟨b, 0, none⟩ = false) :
    Calls Tryz.prog 89 #[.pointer (some ⟨b, 0, none⟩)] w fun e w' => e = .returned (.tuple #[]) ∧ w' = w.setCell ⟨b, 0, none⟩ (.pointer (some ⟨b, 0, none⟩)) := by
  obtain ⟨j, hj, hjs⟩ := Option.map_eq_some_iff.1 bdInfo
  have hne := fun W => Lib.run_neq_ptr_same (P := Tryz.prog) W ⟨b, 0, none⟩ Tryz.underlying112 hj
  go_enter Tryz.func89, Tryz.ntmps89
  go_wp2
  rw [Lib.run_to_unsafe w ⟨b, 0, none⟩ Tryz.underlying112 Tryz.underlying146 hj (by rw [hjs]; decide) hsh (Nat.zero_lt_succ 1)]
  simp only [Result.andThen]
  rw [Oper.upon_value]
  go_wp2
  rw [run_callFunc_extern Tryz.func98 (by kernel_rfl) (by kernel_rfl) (by kernel_rfl) (e := Extern.AbiNoEscape.same) (by kernel_rfl)]
  rw [Lib.run_noEscape]
  simp only [Result.andThen]
  rw [Oper.upon_value]
  go_wp2
  rw [Lib.run_from_unsafe w ⟨b, 0, none⟩ Tryz.underlying146 Tryz.underlying112 hj hsh bdLies]
  simp only [Result.andThen]
  rw [Oper.upon_value]
  go_wp2
  go_end0
  exact ⟨rfl, rfl⟩

theorem bd_check (B b : Nat) (bs : List Value) (w : World) (h : Lib.IsBuilder 114 5 B b bs w) :
    Calls Tryz.prog 89 #[.pointer (some ⟨b, 0, none⟩)] w fun e w' => e = .returned (.tuple #[]) ∧ (Lib.BuilderAt 114 5 B b (.pointer (some ⟨b, 0, none⟩)) bs w' ∧ Below B w w') := by
  rcases h with h | h
  · refine (bd_fresh b w h.cell0 h.shape h.frozen0).mono ?_
    rintro e w' ⟨rfl, rfl⟩
    exact ⟨rfl, h.used _, (Below.refl B w).setCell (p := ⟨b, 0, none⟩) h.1 _⟩
  · refine (bd_used b w h.cell0).mono ?_
    rintro e w' ⟨rfl, rfl⟩
    exact ⟨rfl, h, Below.refl B _⟩

/-- A builder that holds these bytes. -/
def Bld (B b : Nat) (l : List UInt8) (w : World) : Prop := Lib.IsBuilder 114 5 B b (l.map bv) w

set_option maxRecDepth 100000 in
set_option maxHeartbeats 2000000 in
theorem bd_byte (B b : Nat) (l : List UInt8) (c : UInt8) (ci : Int) (hci : ci = c.toNat) (w : World) (h : Bld B b l w) (hlen : l.length ≤ 1000000000) (hBw : B ≤ w.heap.size) :
    Calls Tryz.prog 66 #[.pointer (some ⟨b, 0, none⟩), .int .u8 ci] w fun e w' => e = .returned .nilIface ∧ Bld B b (l ++ [c]) w' ∧ Below B w w' := by
  subst hci
  obtain ⟨i0, hi, hz0, hz1, hz2⟩ := info_parts byteInfo
  have hcc := bd_check B b _ w h
  have hll : (l.map bv).length = l.length := List.length_map ..
  go_enter Tryz.func66, Tryz.ntmps66
  go_wp2_with (go_at_call 89; refine hcc.mono ?_; rintro e w1 ⟨rfl, h1, hb1⟩; refine Hid.out ?_)
  obtain ⟨hB, v, hbk, hown, hne⟩ := h1
  have c0 : w1.cell? ⟨b, 0, none⟩ = some (.pointer (some ⟨b, 0, none⟩)) := by rw [Lib.cell_of_heap hbk]; rfl
  have c1 : w1.cell? ⟨b, 1, none⟩ = some v := by rw [Lib.cell_of_heap hbk]; rfl
  rw [hll] at hown
  clear hcc hll
  refine Lib.hid ?_
  go_wp2_with (at_builtin; refine wpList_append_own _ rfl _ _ 43 rfl B 5 i0 (.int .u8 0) 1 1 Tryz.underlying43 hi hz0 hz1 hz2 rfl (by decide) _ _ _ rfl (hown.alloc _) ⟨w1.heap.size, 0, none⟩ 1 1 [.int .u8 c.toNat] rfl rfl ?c1 ?c2 ?c3 ?c4 ?c5 ?_)
  case c1 =>
    intro j u hj
    match j, hj with
    | 0, hj => simp at hj; subst hj; simp [Addr.add]
  case c2 => intro u hu; simp at hu; subst hu; rfl
  case c3 => unfold maxLen; omega
  case c4 => omega
  case c5 => have := hb1.size; simp; omega
  intro v' w2 hown' hgrow _
  have hlt : b < w1.heap.size := lt_of_heap hbk
  have hb2 : w2.heap[b]? = some (.cells #[.pointer (some ⟨b, 0, none⟩), v] 114 (0, 0)) := by
    rw [hgrow.block b (by simp; omega) (fun e => hne e.symm), Lib.alloc_old w1 _ b hlt]
    exact hbk
  have d0 : w2.cell? ⟨b, 0, none⟩ = some (.pointer (some ⟨b, 0, none⟩)) := by rw [Lib.cell_of_heap hb2]; rfl
  have d1 : w2.cell? ⟨b, 1, none⟩ = some v := by rw [Lib.cell_of_heap hb2]; rfl
  have f1 : w2.frozen? ⟨b, 1, none⟩ = false := Lib.frozen_of_heap hb2 1
  obtain ⟨g, cap, rfl⟩ : ∃ g cap, v' = .slice (some ⟨g, 0, none⟩) (l.length + 1) cap := by
    rcases hown'.2 with ⟨_, h0⟩ | ⟨g, cap, cur, hv, _⟩
    · omega
    · exact ⟨g, cap, hv⟩
  go_wp2
  go_ret
  refine ⟨rfl, .inr ?_, ?_⟩
  · refine Lib.BuilderAt.put (T := 114) (e := 5) hB hb2 (bs' := (l ++ [c]).map bv) ?_ (by decide)
    rw [List.length_map, List.length_append, List.map_append]
    exact hown'
  · exact ((hb1.alloc (by have := hb1.size; omega) _).grown hgrow (by have := hb1.size; simp; omega) (fun k hk => (hown.lt k hk).1)).setCell (p := ⟨b, 1, none⟩) hB _

set_option maxRecDepth 100000 in
set_option maxHeartbeats 2000000 in
theorem bd_string (B b : Nat) (l p : List UInt8) (s : ByteArray) (hs : s = ⟨p.toArray⟩) (w : World) (h : Bld B b l w) (hlen : l.length ≤ 1000000000) (hp : p.length ≤ 1000000000) (hBw : B ≤ w.heap.size) :
    Calls Tryz.prog 67 #[.pointer (some ⟨b, 0, none⟩), .string s] w fun e w' => e = .returned (.tuple #[.int .i64 s.size, .nilIface]) ∧ Bld B b (l ++ p) w' ∧ Below B w w' := by
  obtain ⟨i0, hi, hz0, hz1, hz2⟩ := info_parts byteInfo
  have hcc := bd_check B b _ w h
  have hll : (l.map bv).length = l.length := List.length_map ..
  have hsz : s.size = p.length := by subst hs; rfl
  have HS := Lib.hid hs
  have HSZ := Lib.hid hsz
  have hsl : s.size ≤ 1000000000 := by omega
  clear hs hsz
  go_enter Tryz.func67, Tryz.ntmps67
  go_wp2_with (go_at_call 89; refine hcc.mono ?_; rintro e w1 ⟨rfl, h1, hb1⟩; refine Hid.out ?_)
  obtain ⟨hB, v, hbk, hown, hne⟩ := h1
  have c0 : w1.cell? ⟨b, 0, none⟩ = some (.pointer (some ⟨b, 0, none⟩)) := by rw [Lib.cell_of_heap hbk]; rfl
  have c1 : w1.cell? ⟨b, 1, none⟩ = some v := by rw [Lib.cell_of_heap hbk]; rfl
  rw [hll] at hown
  clear hcc hll
  refine Lib.hid ?_
  go_wp2_with (at_builtin; refine Lib.wpList_append_own_string _ rfl _ _ 43 9 rfl B 5 i0 Tryz.underlying43 Tryz.underlying9 hi hz0 hz1 hz2 _ _ _ rfl hown s rfl ?c3 ?c4 ?c5 ?_)
  case c3 => unfold maxLen; omega
  case c4 => omega
  case c5 => have := hb1.size; omega
  intro v' w2 hown' hgrow _
  have hlt : b < w1.heap.size := lt_of_heap hbk
  have hb2 : w2.heap[b]? = some (.cells #[.pointer (some ⟨b, 0, none⟩), v] 114 (0, 0)) := by
    rw [hgrow.block b hlt (fun e => hne e.symm)]
    exact hbk
  have d0 : w2.cell? ⟨b, 0, none⟩ = some (.pointer (some ⟨b, 0, none⟩)) := by rw [Lib.cell_of_heap hb2]; rfl
  have d1 : w2.cell? ⟨b, 1, none⟩ = some v := by rw [Lib.cell_of_heap hb2]; rfl
  have f1 : w2.frozen? ⟨b, 1, none⟩ = false := Lib.frozen_of_heap hb2 1
  obtain ⟨ao, n', cap, rfl⟩ : ∃ ao n' cap, v' = .slice ao n' cap := by
    rcases hown'.2 with ⟨hv, _⟩ | ⟨g, cap, cur, hv, _⟩
    · exact ⟨_, _, _, hv⟩
    · exact ⟨_, _, _, hv⟩
  go_wp2
  go_ret2
  refine ⟨rfl, .inr ?_, ?_⟩
  · refine Lib.BuilderAt.put (T := 114) (e := 5) hB hb2 (bs' := (l ++ p).map bv) ?_ (by decide)
    rw [List.length_map, List.length_append, List.map_append, ← HSZ.out]
    rw [strCells_bv, show s.data.toList = p by rw [HS.out]] at hown'
    exact hown'
  · exact (hb1.grown hgrow (by have := hb1.size; omega) (fun k hk => (hown.lt k hk).1)).setCell (p := ⟨b, 1, none⟩) hB _

theorem bd_text (B b : Nat) (l : List UInt8) (w : World) (h : Bld B b l w) (hBw : B ≤ w.heap.size) :
    Calls Tryz.prog 69 #[.pointer (some ⟨b, 0, none⟩)] w fun e w' => e = .returned (.string ⟨l.toArray⟩) ∧ Below B w w' := Tryz.Builder_String_any B b l w h hBw
theorem ownsRow_kept2 {w w' : World} {base : Nat} {e : TypeId} {v : Value} {n : Nat} {xs : List Value} (h : w.ownsRow base e 1 v n xs) (hk : Kept NoBlock w w') : w'.ownsRow base e 1 v n xs := by
  refine ⟨h.1, ?_⟩
  rcases h.2 with h' | ⟨g, cap, cur, e1, e2, e3, rest⟩
  · exact .inl h'
  · exact .inr ⟨g, cap, cur, e1, e2, hk.heap e3 (fun h => h), rest⟩
theorem Bld.kept {B b : Nat} {l : List UInt8} {w w' : World} (h : Bld B b l w) (hk : Kept NoBlock w w') : Bld B b l w' := by
  rcases h with h | h
  · obtain ⟨h0, v, h1, h2, h3⟩ := h
    exact .inl ⟨h0, v, hk.heap h1 (fun h => h), ownsRow_kept2 h2 hk, h3⟩
  · obtain ⟨h0, v, h1, h2, h3⟩ := h
    exact .inr ⟨h0, v, hk.heap h1 (fun h => h), ownsRow_kept2 h2 hk, h3⟩

/-- A builder as the code makes it. -/
theorem bd_made (w : World) : Bld w.heap.size w.heap.size [] (w.alloc (.cells #[.pointer none, .slice none 0 0] 114)) :=
  .inl ⟨Nat.le_refl _, .slice none 0 0, heap_alloc_new w _, ⟨rfl, .inl ⟨rfl, rfl⟩⟩, by simp [Value.ownBlock]⟩
end Go.Proofs.YtdinkdmkbfbjbaaGreatDoor
