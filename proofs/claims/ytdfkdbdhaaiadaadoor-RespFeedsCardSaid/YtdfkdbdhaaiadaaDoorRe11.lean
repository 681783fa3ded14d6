/- A reader of requests: the first one, faults caught. -/
import Derived.Test.YtdfkdbdhaaiadaaDoorRe10
import Derived.Defers
import Derived.Recover
namespace Go.Proofs.YtdfkdbdhaaiadaaDoor
open Go.RowKit
attribute [local go_sem] fold_part fold_some fold_some' partAt_zero

/-- The boxes of 'first' from H on: the reader's, the three results', and what was left. -/
structure Fx (w : World) (H g : Nat) (lv bv mv x y : Value) (a b : Value) : Prop where
  b0 : w.heap[H]? = some (.cells #[.pointer (some ⟨g, 0, none⟩)] 53 (0, 0))
  b1 : w.heap[H + 1]? = some (.cells #[lv] 48 (0, 0))
  b2 : w.heap[H + 2]? = some (.cells #[bv] 9 (0, 0))
  b3 : w.heap[H + 3]? = some (.cells #[mv] 4 (0, 0))
  b4 : w.heap[H + 4]? = some (.cells #[x, y] 55 (0, 0))
  bg : w.heap[g]? = some (.cells #[a, b] 57 (0, 0))
  lt : g < H

theorem blk1' {w : World} {g : Nat} {a : Value} {T : TypeId} (h : w.heap[g]? = some (.cells #[a] T (0, 0))) :
    w.cell? ⟨g, 0, none⟩ = some a ∧ w.frozen? ⟨g, 0, none⟩ = false := ⟨cellB h rfl, frozenB h 0⟩

theorem ta_fault (f : ByteArray) (w : World) : (Instr.typeAssert (.iface 69 (.string f)) 20 69 true).run Tryd.prog w = .ok (.tuple #[.string f, .bool true]) w := by kernel_rfl
theorem ta_wait1 (w : World) : (Instr.typeAssert (.iface 71 (.agg #[])) 20 69 true).run Tryd.prog w = .ok (.tuple #[.string ⟨#[]⟩, .bool false]) w := by kernel_rfl
theorem ta_wait2 (w : World) : (Instr.typeAssert (.iface 71 (.agg #[])) 20 71 true).run Tryd.prog w = .ok (.tuple #[.agg #[], .bool true]) w := by kernel_rfl

theorem heap_set_ne {w : World} {o : Option Obj} {p : Addr} {v : Value} {k : Nat} (h : w.heap[k]? = o) (hne : k ≠ p.block) : (w.setCell p v).heap[k]? = o := (heap_setCell_ne p v hne).trans h

/-- The three results and the reader's two cells, stored. -/
theorem Fx.caught {w : World} {H g : Nat} {lv bv mv x y a b : Value} (h : Fx w H g lv bv mv x y a b) {lv' bv' mv' : Value} :
    Fx (((((w.setCell ⟨H + 1, 0, none⟩ lv').setCell ⟨H + 2, 0, none⟩ bv').setCell ⟨H + 3, 0, none⟩ mv').setCell ⟨g, 0, none⟩ x).setCell ⟨g, 1, none⟩ y) H g lv' bv' mv' x y x y ∧
    Kept (fun k => k = g ∨ k = H + 1 ∨ k = H + 2 ∨ k = H + 3) w (((((w.setCell ⟨H + 1, 0, none⟩ lv').setCell ⟨H + 2, 0, none⟩ bv').setCell ⟨H + 3, 0, none⟩ mv').setCell ⟨g, 0, none⟩ x).setCell ⟨g, 1, none⟩ y) := by
  obtain ⟨h0, h1, h2, h3, h4, hg, hlt⟩ := h
  refine ⟨⟨?_, ?_, ?_, ?_, ?_, ?_, hlt⟩, ?_⟩
  · repeat (refine heap_set_ne ?_ (by simp only; omega))
    exact h0
  · refine heap_set_ne (heap_set_ne (heap_set_ne (heap_set_ne (heap_setCell_same h1 0 lv') ?_) ?_) ?_) ?_ <;> (simp only; omega)
  · refine heap_set_ne (heap_set_ne (heap_set_ne (heap_setCell_same (heap_set_ne h2 ?_) 0 bv') ?_) ?_) ?_ <;> (simp only; omega)
  · refine heap_set_ne (heap_set_ne (heap_setCell_same (heap_set_ne (heap_set_ne h3 ?_) ?_) 0 mv') ?_) ?_ <;> (simp only; omega)
  · repeat (refine heap_set_ne ?_ (by simp only; omega))
    exact h4
  · refine heap_setCell_same (heap_setCell_same (heap_set_ne (heap_set_ne (heap_set_ne hg ?_) ?_) ?_) 0 x) 1 y <;> (simp only; omega)
  · exact Kept.setCell (S := fun k => k = g ∨ k = H + 1 ∨ k = H + 2 ∨ k = H + 3) (Kept.setCell (S := fun k => k = g ∨ k = H + 1 ∨ k = H + 2 ∨ k = H + 3) (Kept.setCell (S := fun k => k = g ∨ k = H + 1 ∨ k = H + 2 ∨ k = H + 3) (Kept.setCell (S := fun k => k = g ∨ k = H + 1 ∨ k = H + 2 ∨ k = H + 3) (Kept.setCell (S := fun k => k = g ∨ k = H + 1 ∨ k = H + 2 ∨ k = H + 3) (Kept.refl _ w) (p := ⟨H + 1, 0, none⟩) (fun _ => by simp) _) (p := ⟨H + 2, 0, none⟩) (fun _ => by simp) _) (p := ⟨H + 3, 0, none⟩) (fun _ => by simp) _) (p := ⟨g, 0, none⟩) (fun _ => by simp) _) (p := ⟨g, 1, none⟩) (fun _ => by simp) _

def CatchEnd (H g : Nat) (bad : Value) (x y : Value) (r : List PanicEntry) (w : World) (e : Ending) (u' : FrameMode) (w' : World) : Prop :=
  e = .returned (.tuple #[]) ∧ u' = .panicking r ∧ Fx w' H g (.slice none 0 0) bad (.bool false) x y x y ∧ Kept (fun k => k = g ∨ k = H + 1 ∨ k = H + 2 ∨ k = H + 3) w w'

set_option maxRecDepth 100000 in
set_option maxHeartbeats 1600000 in
theorem pcatch_fault (H g : Nat) (lv bv mv a b : Value) (ap : Option Addr) (n cp u : Nat) (f : Bs) (w : World) (h : Fx w H g lv bv mv (.slice ap n cp) (.int .i64 u) a b) :
    CallsD Tryd.prog 29 #[.pointer (some ⟨H + 1, 0, none⟩), .pointer (some ⟨H + 2, 0, none⟩), .pointer (some ⟨H + 3, 0, none⟩), .pointer (some ⟨H + 4, 0, none⟩), .pointer (some ⟨H, 0, none⟩)] (.panicking (faultE f)) w
      (CatchEnd H g (.string ⟨f.toArray⟩) (.slice ap n cp) (.int .i64 u) [{ v := .iface 69 (.string ⟨f.toArray⟩), recovered := true }] w) := by
  obtain ⟨c0, f0⟩ := blk1' h.b0
  obtain ⟨c1, f1⟩ := blk1' h.b1
  obtain ⟨c2, f2⟩ := blk1' h.b2
  obtain ⟨c3, f3⟩ := blk1' h.b3
  obtain ⟨c4, c5, f4, f5⟩ := blk2 h.b4
  obtain ⟨c6, c7, f6, f7⟩ := blk2 h.bg
  have hlt := h.lt
  have HH := Lib.hid h
  clear h
  have hta := fun w => ta_fault ⟨f.toArray⟩ w
  refine callsD_of_wpS Tryd.func29 rfl fun c₀ cs hu => ?_
  simp only [Tryd.ntmps29, List.size_toArray, List.length_cons, List.length_nil, Nat.reduceAdd, Nat.reduceSub, Array.replicate_succ, Array.replicate_zero, List.push_toArray, List.append_toArray, List.nil_append, List.cons_append]
  apply wpS_seq
  apply wpS_seq
  apply wpS_region
  simp [wpOpsS, go_sem, recoverD, hu, faultE, Exit.thenS]
  refine wpS_of_wp ?_
  clear hu
  go_wp2
  simp only [Exit.thenS]
  refine wpS_of_wp ?_
  go_wp2
  exact ⟨rfl, _, rfl, _, results_none rfl _ _ _, rfl, rfl, Fx.caught HH.out⟩

theorem Fx.keptNo {w w' : World} {H g : Nat} {lv bv mv x y a b : Value} (h : Fx w H g lv bv mv x y a b) (hk : Kept NoBlock w w') : Fx w' H g lv bv mv x y a b :=
  ⟨hk.heap h.b0 (fun h => h), hk.heap h.b1 (fun h => h), hk.heap h.b2 (fun h => h), hk.heap h.b3 (fun h => h), hk.heap h.b4 (fun h => h), hk.heap h.bg (fun h => h), h.lt⟩

set_option maxRecDepth 100000 in
set_option maxHeartbeats 1600000 in
theorem pcatch_wait (H g : Nat) (lv bv mv a b : Value) (ap : Option Addr) (n cp u : Nat) (w : World) (h : Fx w H g lv bv mv (.slice ap n cp) (.int .i64 u) a b) :
    CallsD Tryd.prog 29 #[.pointer (some ⟨H + 1, 0, none⟩), .pointer (some ⟨H + 2, 0, none⟩), .pointer (some ⟨H + 3, 0, none⟩), .pointer (some ⟨H + 4, 0, none⟩), .pointer (some ⟨H, 0, none⟩)] (.panicking waitE) w
      (CatchEnd H g (.string ⟨#[]⟩) (.slice ap n cp) (.int .i64 u) [{ v := .iface 71 (.agg #[]), recovered := true }] w) := by
  obtain ⟨c0, f0⟩ := blk1' h.b0
  obtain ⟨c1, f1⟩ := blk1' h.b1
  obtain ⟨c2, f2⟩ := blk1' h.b2
  obtain ⟨c3, f3⟩ := blk1' h.b3
  obtain ⟨c4, c5, f4, f5⟩ := blk2 h.b4
  obtain ⟨c6, c7, f6, f7⟩ := blk2 h.bg
  have hlt := h.lt
  have hH4 : H + 4 < w.heap.size := lt_of_heap h.b4
  have HH := Lib.hid h
  clear h
  have e0 : H < w.heap.size := by omega
  have e1 : H + 1 < w.heap.size := by omega
  have e2 : H + 2 < w.heap.size := by omega
  have e3 : H + 3 < w.heap.size := by omega
  have e6 : g < w.heap.size := by omega
  have hta1 := ta_wait1
  have hta2 := ta_wait2
  refine callsD_of_wpS Tryd.func29 rfl fun c₀ cs hu => ?_
  simp only [Tryd.ntmps29, List.size_toArray, List.length_cons, List.length_nil, Nat.reduceAdd, Nat.reduceSub, Array.replicate_succ, Array.replicate_zero, List.push_toArray, List.append_toArray, List.nil_append, List.cons_append]
  apply wpS_seq
  apply wpS_seq
  apply wpS_region
  simp [wpOpsS, go_sem, recoverD, hu, waitE, Exit.thenS]
  refine wpS_of_wp ?_
  clear hu
  go_wp2
  simp only [Exit.thenS]
  refine wpS_of_wp ?_
  go_wp2
  have hf := Fx.caught (lv' := .slice none 0 0) (bv' := .string ⟨#[]⟩) (mv' := .bool false) HH.out
  exact ⟨rfl, _, rfl, _, results_none rfl _ _ _, rfl, rfl, hf.1.keptNo ((Kept.refl _ _).alloc _), hf.2.alloc _⟩

set_option maxRecDepth 100000 in
set_option maxHeartbeats 1600000 in
theorem pcatch_idle (p1 p2 p3 p4 p0 : Value) (w : World) :
    CallsD Tryd.prog 29 #[p1, p2, p3, p4, p0] .returning w fun e u' w' => e = .returned (.tuple #[]) ∧ u' = .returning ∧ w = w' := by
  refine callsD_of_wpS Tryd.func29 rfl fun c₀ cs hu => ?_
  simp only [Tryd.ntmps29, List.size_toArray, List.length_cons, List.length_nil, Nat.reduceAdd, Nat.reduceSub, Array.replicate_succ, Array.replicate_zero, List.push_toArray, List.append_toArray, List.nil_append, List.cons_append]
  apply wpS_seq
  apply wpS_seq
  apply wpS_region
  simp [wpOpsS, go_sem, recoverD, hu, Exit.thenS]
  refine wpS_of_wp ?_
  go_wp2
  refine ⟨rfl, .returning, ?_, _, results_none rfl _ _ _, rfl, rfl, rfl⟩
  cases c₀
  simp_all
end Go.Proofs.YtdfkdbdhaaiadaaDoor
