/- The deque of ints: its list, by a range over its iterator. -/
import Derived.Test.YtnleffjheimmbaaDq1i
import Derived.Lib.Hide
import Derived.RangeFuncNested
import Derived.RangeFuncBound
import Derived.RangeFuncCalls
import Derived.RangeFuncLeaves
import Derived.RangeFuncBox
import Derived.Shelf.Abstract
import Derived.Shelf.RegionOpen
import Derived.OwnWalkIn
import Derived.TacticsInMore
import Derived.LoopNIn
import Derived.LoopIn
import Derived.Maps.AppendAt
namespace Go.Proofs.Ytnleffjheimmbaa
open Go.RowKit Go.Shelf
attribute [local go_sem] Oper.semAt_some

theorem iall (d : Option Addr) (w : World) : Calls Try.prog 51 #[.pointer d] w fun e w' =>
    e = .returned (.func (.func 54) #[] #[.pointer (some ⟨w.heap.size, 0, none⟩)]) ∧ w.alloc (.cells #[.pointer d] 58) = w' := by
  go_enter Try.func51, Try.ntmps51
  go_wp2
  go_ret
  exact ⟨rfl, rfl⟩

/-- What a round keeps that goes on: old memory, and the box of the deque's pointer. -/
structure iKpBox (n₀ Bd : Nat) (W W' : World) : Prop where
  below : Below n₀ W W'
  box : W'.heap[Bd]? = W.heap[Bd]?
theorem iKpBox.trans {n₀ Bd : Nat} {A B C : World} (h : iKpBox n₀ Bd A B) (k : iKpBox n₀ Bd B C) : iKpBox n₀ Bd A C := ⟨h.below.trans k.below, k.box.trans h.box⟩
theorem iKpBox.refl (n₀ Bd : Nat) (W : World) : iKpBox n₀ Bd W W := ⟨Below.refl _ _, rfl⟩
theorem iKpBox.ofDrewN {n₀ Bd : Nat} {A B : World} {k : Nat} (h : iKpBox n₀ Bd (A.drewN k) B) : iKpBox n₀ Bd A B := ⟨⟨h.below.os, h.below.tape, h.below.output, h.below.size, h.below.block⟩, h.box⟩
theorem iKpBox.drewN {n₀ Bd : Nat} {A B : World} {k : Nat} (h : iKpBox n₀ Bd A B) : iKpBox n₀ Bd A (B.drewN k) := ⟨⟨h.below.os, h.below.tape, h.below.output, h.below.size, h.below.block⟩, h.box⟩

/-- The first k values, each with its place. -/
def iupto (L : List Int) (k : Nat) : List (Nat × Int) := (L.take k).zipIdx.map fun (v, i) => (i, v)
theorem iupto_succ (L : List Int) {k : Nat} (h : k < L.length) : iupto L (k + 1) = iupto L k ++ [(k, L[k])] := by
  unfold iupto
  rw [List.take_succ_eq_append_getElem h, List.zipIdx_append, List.map_append]
  simp [List.length_take, Nat.min_eq_left (Nat.le_of_lt h)]
theorem iupto_length (L : List Int) {k : Nat} (h : k ≤ L.length) : (iupto L k).length = k := by simp [iupto, h]
theorem iupto_zero (L : List Int) : iupto L 0 = [] := by simp [iupto]
theorem iupto_snd (L : List Int) (k : Nat) : (iupto L k).map Prod.snd = L.take k := by
  simp only [iupto, List.map_map]
  exact List.zipIdx_map_fst 0 _

set_option maxHeartbeats 800000 in
theorem iall1_in (n : Nat) (hn : 1 ≤ n) (l Bd g n₀ : Nat) (R : Option Nat) (L : List Int) (hg : g < n₀) (hR : ∀ r, R = some r → r < n₀) (J Jx : List (Nat × Int) → World → Prop)
    (hJd : ∀ pre W k, J pre W → J pre (W.drewN k)) (hJxd : ∀ pre W k, Jx pre W → Jx pre (W.drewN k))
    (hY : ∀ (pre : List (Nat × Int)) (x : Nat × Int) (W : World), J pre W → pre.length < L.length → YieldAt Fence.wide (n - 1) Try.prog l #[.int .i64 (x.1 : Int), .int .i64 x.2] W fun e W' =>
      (e = .returned (.bool true) ∧ J (pre ++ [x]) W' ∧ iKpBox n₀ Bd W W') ∨ (e = .returned (.bool false) ∧ Jx (pre ++ [x]) W'))
    (W : World) (hB : W.cell? ⟨Bd, 0, none⟩ = some (.pointer (some ⟨g, 0, none⟩))) (hD : iDq W g R L) (h0 : J [] W) :
    CallsIn Fence.wide n Try.prog 54 #[.func (.yield l) #[] #[], .pointer (some ⟨Bd, 0, none⟩)] W fun e W' => (∃ v, e = .returned v) ∧
      ((∃ ys, ys = iupto L L.length ∧ J ys W') ∨ (∃ pre, True ∧ Jx pre W')) := by
  refine callsIn_of_wp Try.func54 rfl trivial ?_ rfl
  simp only [Try.ntmps54, List.size_toArray, List.length_cons, List.length_nil, Nat.reduceAdd, Nat.reduceSub, Array.replicate_succ, Array.replicate_zero, List.push_toArray, List.append_toArray, List.nil_append, List.cons_append]
  gi_wp2
  gi_loopw [3] (fun i wr => ∃ k : Nat, k ≤ L.length ∧ i = .int .i64 k ∧ J (iupto L k) wr ∧ iKpBox n₀ Bd W wr) (fun i _ => L.length - (intOf i).toNat)
  case atStart => exact ⟨0, Nat.zero_le _, rfl, by rw [iupto_zero]; exact h0, iKpBox.refl _ _ _⟩
  case round =>
    obtain ⟨k, hk, rfl, hJk, hbel⟩ := hrel
    have hDr : iDq wr g R L := hD.kept (Kept.of_below (S := fun i => n₀ ≤ i) hbel.below (fun _ _ h => h)) (by omega) (fun r hr => by have := hR r hr; omega)
    have hBr : wr.cell? ⟨Bd, 0, none⟩ = some (.pointer (some ⟨g, 0, none⟩)) := (World.cell?_of_block (w := W) (a := ⟨Bd, 0, none⟩) hbel.box).trans hB
    have hlen := hDr.len
    by_cases hlt : k < L.length
    · obtain ⟨m, c, f, r, o, j, c0, c1, c2, hm, hm', hf, hj, hjm, cr⟩ := hDr.at hlt
      have hy := fun q => hY _ (k, L[k]) (wr.drewN q) (hJd _ _ q hJk) (by rw [iupto_length L hk]; exact hlt)
      have HY := Lib.hid hy
      have HJd := Lib.hid hJd
      have HJxd := Lib.hid hJxd
      clear hY hy hJd hJxd
      gi_wp2_with (refine ⟨trivial, ?_⟩; gi_at_call 18; refine (callsIn_wide.2 (ilen_dq g R L _ hDr)).mono ?_; rintro e w' ⟨rfl, rfl⟩)
      refine wpIn_plan 0 [1, 2, 3, 4, 5, 6, 7, 8, 9, 10] 11 [] [12] (by kernel_rfl) (by kernel_rfl) ?_
      simp only [wpPlanIn, pick, List.filterMap_cons, List.filterMap_nil, List.getElem?_cons_succ, List.getElem?_cons_zero]
      repeat (quiet_step ((go_at_call 37; exact Calls.quiet_of (iplace_cell g f k m c j _ k _ (by exact c0) (by exact c1) hm hm' hf (by omega) rfl hj))))
      refine wpQuiet_nil ?_
      rintro _ ⟨n1, rfl⟩
      obtain ⟨fn, tmps, assign, body, hy, hRd⟩ := HY.out n1
      gi_wp2
      refine hRd.mono ?_
      rintro e W3 (⟨rfl, hJ3, hk3⟩ | ⟨rfl, hJx3⟩)
      · gi_wp2
        refine Halt.mk ?_
        repeat (quiet_step (fail))
        refine wpQuiet_nil ?_
        rintro _ ⟨n2, rfl⟩
        gi_wp2
        go_roundw
        case rel => exact ⟨k + 1, by omega, by go_num, by rw [iupto_succ L hlt]; exact HJd.out _ _ _ hJ3, hbel.trans hk3.ofDrewN.drewN⟩
        case measure => simp [intOf]; omega
      · gi_wp2
        refine Halt.mk ?_
        repeat (quiet_step (fail))
        refine wpQuiet_nil ?_
        rintro _ ⟨n2, rfl⟩
        gi_wp2
        refine bodyPost_ret (results_none rfl _ _ _) rfl ?_
        exact ⟨⟨_, rfl⟩, .inr ⟨_, trivial, HJxd.out _ _ _ hJx3⟩⟩
    · obtain rfl : k = L.length := by omega
      gi_wp2_with (refine ⟨trivial, ?_⟩; gi_at_call 18; refine (callsIn_wide.2 (ilen_dq g R L _ hDr)).mono ?_; rintro e w' ⟨rfl, rfl⟩)
      go_end0
      exact ⟨⟨_, rfl⟩, .inl ⟨_, rfl, hJk⟩⟩
end Go.Proofs.Ytnleffjheimmbaa
