/- 'append' of a slice whose cells are known, to a row that is owned. For any program. -/
import Derived.Test.YtdfkdbdhaaiadaaDoorBase
import Derived.Laws.AppendOwn
import Derived.Laws.AppendOwnNone
import Derived.OwnWalk
namespace Go.Proofs.YtdfkdbdhaaiadaaDoor
open Go.RowKit

theorem wpList_append_holds {P : Program} {w : World} {ops : Array Oper} {rest : List Oper} {o : Oper} {a : Act} {Q : Exit → Act → World → Prop} (hgd : o.guard = none) (s x : Operand) (t : TypeId)
    (ho : o.op = .call { callee := .builtin .append, args := #[s, x], argTypes := #[t, t] })
    (base : Nat) (e : TypeId) (i : TypeInfo) (z : Value) (bytes : Nat) (ht : P.underlying t = some (.slice e)) (hi : P.info? e = some i) (hz : i.zero = some z)
    (hsize : i.size = 1) (hby : i.bytes = bytes) (hzs : z.cells.size = 1)
    (v : Value) (n : Nat) (xs : List Value) (hs : a.eval s = v) (hown : w.ownsRow base e 1 v n xs)
    (ap : Option Addr) (m c : Nat) (news : List Value) (hx : a.eval x = .slice ap m c) (hH : Holds w ap m news) (hnil : ap = none → c = 0) (h1 : ∀ u ∈ news, u.oneCell' = true)
    (h63 : n + m ≤ maxLen) (hbytes : (n + m) * bytes ≤ 140737488355328) (hbase : base ≤ w.heap.size)
    (h : ∀ v' w', w'.ownsRow base e 1 v' (n + m) (xs ++ news) → w.grownBy w' v.ownBlock → wpList P ops Q rest (a.put o.dst v') w') : wpList P ops Q (o :: rest) a w := by
  cases ap with
  | none =>
    have hm : m = 0 := by
      rcases Nat.eq_zero_or_pos m with h | h
      · exact h
      · obtain ⟨_, h, _⟩ := hH.2 h; cases h
    obtain rfl : c = 0 := hnil rfl
    subst hm
    have hn : news = [] := List.eq_nil_of_length_eq_zero hH.1
    subst hn
    exact wpList_append_own_none hgd s x t ho base e i 1 ht hi v n xs hs hown hx (h v w (by simpa using hown) (World.grownBy.refl _ _))
  | some ad =>
    refine wpList_append_own w hgd s x t ho base e i z 1 bytes ht hi hz hsize hby hzs (by decide) v n xs hs hown ad m c news hx (by simpa using hH.1) (fun j u hj => ?_) h1 h63 hbytes hbase (fun v' w' h2 h3 _ => h v' w' h2 h3)
    have : 0 < m := by rw [← hH.1]; exact Nat.lt_of_le_of_lt (Nat.zero_le j) (List.getElem?_eq_some_iff.1 hj).1
    obtain ⟨ad', e', hc⟩ := hH.2 this
    cases e'
    exact hc j u hj

theorem ownsRow_lower {w : World} {base base' : Nat} {e : TypeId} {v : Value} {n : Nat} {xs : List Value} (h : w.ownsRow base e 1 v n xs) (hb : base' ≤ base) : w.ownsRow base' e 1 v n xs := by
  refine ⟨h.1, ?_⟩
  rcases h.2 with h' | ⟨g, cap, cur, e1, e2, rest⟩
  · exact .inl h'
  · exact .inr ⟨g, cap, cur, e1, Nat.le_trans hb e2, rest⟩

/-- A part of a row that lies in a block. -/
theorem holds_row {w : World} {k : Nat} {cur : Array Value} {T : TypeId} {fz : Nat × Nat} {n : Nat} {xs : List Value} (h : w.heap[k]? = some (.cells cur T fz)) (ht : cur.toList.take n = xs) (hn : xs.length = n) (i m : Nat) (him : i + m ≤ n) :
    Holds w (some ⟨k, i, none⟩) m ((xs.drop i).take m) := by
  refine ⟨by rw [List.length_take, List.length_drop]; omega, fun _ => ⟨_, rfl, fun j v hj => ?_⟩⟩
  have hadd : Addr.add ⟨k, i, none⟩ j = ⟨k, i + j, none⟩ := by unfold Addr.add; split <;> simp_all
  rw [hadd]
  refine cellB h ?_
  rw [List.getElem?_take] at hj
  split at hj
  · rw [List.getElem?_drop, ← ht, List.getElem?_take] at hj
    split at hj
    · rw [← Array.getElem?_toList]; exact hj
    · cases hj
  · cases hj

theorem holds_fresh (w : World) (T : TypeId) (xs : List Value) : Holds (w.alloc (.cells xs.toArray T)) (some ⟨w.heap.size, 0, none⟩) xs.length xs := by
  refine ⟨rfl, fun _ => ⟨_, rfl, fun j v hj => ?_⟩⟩
  have : Addr.add ⟨w.heap.size, 0, none⟩ j = ⟨w.heap.size, j, none⟩ := by unfold Addr.add; split <;> simp_all
  rw [this]
  exact cellB (heap_alloc_new w _) (by simpa using hj)

theorem below_app0 {B : Nat} {w wi wj : World} {e : TypeId} {v : Value} {n : Nat} {xs : List Value} (hB : Below B w wi) (hBs : B ≤ wi.heap.size) (hown : wi.ownsRow B e 1 v n xs) (hg : wi.grownBy wj v.ownBlock) : Below B w wj :=
  hB.grown hg hBs (fun k h => (hown.lt k h).1)
theorem below_app {B : Nat} {w wi wj : World} {o : Obj} {e : TypeId} {v : Value} {n : Nat} {xs : List Value} (hB : Below B w wi) (hBs : B ≤ wi.heap.size) (hown : wi.ownsRow B e 1 v n xs) (hg : (wi.alloc o).grownBy wj v.ownBlock) : Below B w wj :=
  (hB.alloc hBs o).grown hg (by simp; omega) (fun k h => (hown.lt k h).1)
end Go.Proofs.YtdfkdbdhaaiadaaDoor
