/- The deque of strings: its list, by a range over its iterator. -/
import Derived.Test.YtnleffjheimmbaaDq1s
import Derived.Lib.Hide
import Derived.RangeFuncNested
import Derived.RangeFuncBound
import Derived.RangeFuncCalls
import Derived.RangeFuncLeaves
import Derived.RangeFuncBox
import Derived.Shelf.Abstract
import Derived.Shelf.RegionOpen
import Derived.OwnWalkIn
import Derived.TacticsInMore
import Derived.LoopNIn
import Derived.LoopIn
import Derived.Maps.AppendAt
namespace Go.Proofs.Ytnleffjheimmbaa
open Go.RowKit Go.Shelf
attribute [local go_sem] Oper.semAt_some

theorem sall (d : Option Addr) (w : World) : Calls Try.prog 33 #[.pointer d] w fun e w' =>
    e = .returned (.func (.func 52) #[] #[.pointer (some ⟨w.heap.size, 0, none⟩)]) ∧ w.alloc (.cells #[.pointer d] 24) = w' := by
  go_enter Try.func33, Try.ntmps33
  go_wp2
  go_ret
  exact ⟨rfl, rfl⟩

/-- What a round keeps that goes on: old memory, and the box of the deque's pointer. -/
structure sKpBox (n₀ Bd : Nat) (W W' : World) : Prop where
  below : Below n₀ W W'
  box : W'.heap[Bd]? = W.heap[Bd]?
theorem sKpBox.trans {n₀ Bd : Nat} {A B C : World} (h : sKpBox n₀ Bd A B) (k : sKpBox n₀ Bd B C) : sKpBox n₀ Bd A C := ⟨h.below.trans k.below, k.box.trans h.box⟩
theorem sKpBox.refl (n₀ Bd : Nat) (W : World) : sKpBox n₀ Bd W W := ⟨Below.refl _ _, rfl⟩
theorem sKpBox.ofDrewN {n₀ Bd : Nat} {A B : World} {k : Nat} (h : sKpBox n₀ Bd (A.drewN k) B) : sKpBox n₀ Bd A B := ⟨⟨h.below.os, h.below.tape, h.below.output, h.below.size, h.below.block⟩, h.box⟩
theorem sKpBox.drewN {n₀ Bd : Nat} {A B : World} {k : Nat} (h : sKpBox n₀ Bd A B) : sKpBox n₀ Bd A (B.drewN k) := ⟨⟨h.below.os, h.below.tape, h.below.output, h.below.size, h.below.block⟩, h.box⟩

/-- The first k values, each with its place. -/
def supto (L : List ByteArray) (k : Nat) : List (Nat × ByteArray) := (L.take k).zipIdx.map fun (v, i) => (i, v)
theorem supto_succ (L : List ByteArray) {k : Nat} (h : k < L.length) : supto L (k + 1) = supto L k ++ [(k, L[k])] := by
  unfold supto
  rw [List.take_succ_eq_append_getElem h, List.zipIdx_append, List.map_append]
  simp [List.length_take, Nat.min_eq_left (Nat.le_of_lt h)]
theorem supto_length (L : List ByteArray) {k : Nat} (h : k ≤ L.length) : (supto L k).length = k := by simp [supto, h]
theorem supto_zero (L : List ByteArray) : supto L 0 = [] := by simp [supto]
theorem supto_snd (L : List ByteArray) (k : Nat) : (supto L k).map Prod.snd = L.take k := by
  simp only [supto, List.map_map]
  exact List.zipIdx_map_fst 0 _

set_option maxHeartbeats 800000 in
theorem sall1_in (n : Nat) (hn : 1 ≤ n) (l Bd g n₀ : Nat) (R : Option Nat) (L : List ByteArray) (hg : g < n₀) (hR : ∀ r, R = some r → r < n₀) (J Jx : List (Nat × ByteArray) → World → Prop)
    (hJd : ∀ pre W k, J pre W → J pre (W.drewN k)) (hJxd : ∀ pre W k, Jx pre W → Jx pre (W.drewN k))
    (hY : ∀ (pre : List (Nat × ByteArray)) (x : Nat × ByteArray) (W : World), J pre W → pre.length < L.length → YieldAt Fence.wide (n - 1) Try.prog l #[.int .i64 (x.1 : Int), .string x.2] W fun e W' =>
      (e = .returned (.bool true) ∧ J (pre ++ [x]) W' ∧ sKpBox n₀ Bd W W') ∨ (e = .returned (.bool false) ∧ Jx (pre ++ [x]) W'))
    (W : World) (hB : W.cell? ⟨Bd, 0, none⟩ = some (.pointer (some ⟨g, 0, none⟩))) (hD : sDq W g R L) (h0 : J [] W) :
    CallsIn Fence.wide n Try.prog 52 #[.func (.yield l) #[] #[], .pointer (some ⟨Bd, 0, none⟩)] W fun e W' => (∃ v, e = .returned v) ∧
      ((∃ ys, ys = supto L L.length ∧ J ys W') ∨ (∃ pre, True ∧ Jx pre W')) := by
  refine callsIn_of_wp Try.func52 rfl trivial ?_ rfl
  simp only [Try.ntmps52, List.size_toArray, List.length_cons, List.length_nil, Nat.reduceAdd, Nat.reduceSub, Array.replicate_succ, Array.replicate_zero, List.push_toArray, List.append_toArray, List.nil_append, List.cons_append]
  gi_wp2
  gi_loopw [3] (fun i wr => ∃ k : Nat, k ≤ L.length ∧ i = .int .i64 k ∧ J (supto L k) wr ∧ sKpBox n₀ Bd W wr) (fun i _ => L.length - (intOf i).toNat)
  case atStart => exact ⟨0, Nat.zero_le _, rfl, by rw [supto_zero]; exact h0, sKpBox.refl _ _ _⟩
  case round =>
    obtain ⟨k, hk, rfl, hJk, hbel⟩ := hrel
    have hDr : sDq wr g R L := hD.kept (Kept.of_below (S := fun i => n₀ ≤ i) hbel.below (fun _ _ h => h)) (by omega) (fun r hr => by have := hR r hr; omega)
    have hBr : wr.cell? ⟨Bd, 0, none⟩ = some (.pointer (some ⟨g, 0, none⟩)) := (World.cell?_of_block (w := W) (a := ⟨Bd, 0, none⟩) hbel.box).trans hB
    have hlen := hDr.len
    by_cases hlt : k < L.length
    · obtain ⟨m, c, f, r, o, j, c0, c1, c2, hm, hm', hf, hj, hjm, cr⟩ := hDr.at hlt
      have hy := fun q => hY _ (k, L[k]) (wr.drewN q) (hJd _ _ q hJk) (by rw [supto_length L hk]; exact hlt)
      have HY := Lib.hid hy
      have HJd := Lib.hid hJd
      have HJxd := Lib.hid hJxd
      clear hY hy hJd hJxd
      gi_wp2_with (refine ⟨trivial, ?_⟩; gi_at_call 20; refine (callsIn_wide.2 (slen_dq g R L _ hDr)).mono ?_; rintro e w' ⟨rfl, rfl⟩)
      refine wpIn_plan 0 [1, 2, 3, 4, 5, 6, 7, 8, 9, 10] 11 [] [12] (by kernel_rfl) (by kernel_rfl) ?_
      simp only [wpPlanIn, pick, List.filterMap_cons, List.filterMap_nil, List.getElem?_cons_succ, List.getElem?_cons_zero]
      repeat (quiet_step ((go_at_call 49; exact Calls.quiet_of (splace_cell g f k m c j _ k _ (by exact c0) (by exact c1) hm hm' hf (by omega) rfl hj))))
      refine wpQuiet_nil ?_
      rintro _ ⟨n1, rfl⟩
      obtain ⟨fn, tmps, assign, body, hy, hRd⟩ := HY.out n1
      gi_wp2
      refine hRd.mono ?_
      rintro e W3 (⟨rfl, hJ3, hk3⟩ | ⟨rfl, hJx3⟩)
      · gi_wp2
        refine Halt.mk ?_
        repeat (quiet_step (fail))
        refine wpQuiet_nil ?_
        rintro _ ⟨n2, rfl⟩
        gi_wp2
        go_roundw
        case rel => exact ⟨k + 1, by omega, by go_num, by rw [supto_succ L hlt]; exact HJd.out _ _ _ hJ3, hbel.trans hk3.ofDrewN.drewN⟩
        case measure => simp [intOf]; omega
      · gi_wp2
        refine Halt.mk ?_
        repeat (quiet_step (fail))
        refine wpQuiet_nil ?_
        rintro _ ⟨n2, rfl⟩
        gi_wp2
        refine bodyPost_ret (results_none rfl _ _ _) rfl ?_
        exact ⟨⟨_, rfl⟩, .inr ⟨_, trivial, HJxd.out _ _ _ hJx3⟩⟩
    · obtain rfl : k = L.length := by omega
      gi_wp2_with (refine ⟨trivial, ?_⟩; gi_at_call 20; refine (callsIn_wide.2 (slen_dq g R L _ hDr)).mono ?_; rintro e w' ⟨rfl, rfl⟩)
      go_end0
      exact ⟨⟨_, rfl⟩, .inl ⟨_, rfl, hJk⟩⟩
end Go.Proofs.Ytnleffjheimmbaa
