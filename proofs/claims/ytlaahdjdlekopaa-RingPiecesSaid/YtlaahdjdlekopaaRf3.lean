/- The document's ring: forks, another history, who may go on; and the ring's own Follow and State. -/
import Derived.Test.YtlaahdjdlekopaaRf2
import Derived.Test.YtlaahdjdlekopaaRno
namespace Go.Proofs.Ytlaahdjdlekopaa
open Go.RowKit
attribute [local go_sem] stillV_value stillV_skip

theorem tree_nil {P : Program} {l : List Oper} {Q : Exit → Act → World → Prop} {Cl : World → Prop} {z : Nat} {a : Act} {w : World} (h : Q .normal a w) : wpTree P l Q Cl z (.fin []) a w := by
  rw [wpTree]; exact h

theorem ffeed (h : Nat) (q : Option Nat) (s : RS) (ap : Option Addr) (n cap : Nat) (b : List UInt8) (w : World) (hr : Rr w h q s) (hb : Holds w ap n (b.map bv)) (hncap : n ≤ cap) (hz : ap = none → cap = 0)
    (haway : ∀ ad, ap = some ad → 0 < n → ad.block ≠ h) (hn : n ≤ 1000) (hfit : s.off + n ≤ 1125899906842624) :
    Calls Try.prog 33 #[.pointer (some ⟨h, 0, none⟩), .slice ap n cap] w fun e w' => e = .returned (.int .i64 0) ∧ ∃ q', (∀ r, q' = some r → w.heap.size ≤ r ∧ r < w'.heap.size) ∧ Rr w' h q' (s.feed b) ∧ Kept (fun k => k = h) w w' := by
  by_cases hov : s.size < s.L.length + n
  · exact ffeed_over h q s ap n cap b w hr hb hncap hz haway hn hfit hov
  · exact ffeed_in h q s ap n cap b w hr hb hncap hz haway hn hfit (by omega)

theorem ffork_bad (h : Nat) (q : Option Nat) (s : RS) (i : Int) (w : World) (hr : Rr w h q s) (hi : i = 0 ∨ i = s.id) :
    Calls Try.prog 34 #[.pointer (some ⟨h, 0, none⟩), .int .u64 i] w fun e w' => e = .returned (.int .i64 190) ∧ w = w' := by
  obtain ⟨aq, cq, h0, h1, h2, h3, h4, h5, h6, h7, h8, h9⟩ := hr
  obtain ⟨c0, c1, c2, c3, c4, c5⟩ := blk6 h0
  clear h1 h0 h2 h3 h4 h5 h6
  by_cases hi0 : i = 0
  · subst hi0
    go_enter Try.func34, Try.ntmps34
    go_wp2
    go_ret
    exact ⟨rfl, rfl⟩
  · have hi1 : (i == 0) = false := by simpa using hi0
    have hi2 : (i == s.id) = true := by simpa using hi.resolve_left hi0
    go_enter Try.func34, Try.ntmps34
    go_wp2
    go_ret
    exact ⟨rfl, rfl⟩

set_option maxHeartbeats 1600000 in
theorem ffork (h : Nat) (q : Option Nat) (s : RS) (i : Int) (w : World) (hr : Rr w h q s) (hi : i ≠ 0) (hi' : i ≠ s.id) :
    Calls Try.prog 34 #[.pointer (some ⟨h, 0, none⟩), .int .u64 i] w fun e w' => e = .returned (.int .i64 0) ∧ Rr w' h q (s.fork_ i) ∧ Kept (fun k => k = h) w w' := by
  obtain ⟨aq, cq, h0, h1, h2, h3, h4, h5, h6, h7, h8, h9⟩ := hr
  obtain ⟨c0, c1, c2, c3, c4, c5⟩ := blk6 h0
  have f0 := frozenB h0 0
  have f2 := frozenB h0 2
  have f3 := frozenB h0 3
  have hhs := lt_of_heap h0
  have hn0 : (i == 0) = false := by simpa using hi
  have hn1 : (i == s.id) = false := by simpa using hi'
  have H0 := Lib.hid h0
  have H1 := Lib.hid h1
  have H5 := Lib.hid h5
  have H6 := Lib.hid h6
  clear h0 h1 h5 h6
  go_enter Try.func34, Try.ntmps34
  go_wp2
  refine wp_tree (fun W => W.cell? ⟨h, 0, none⟩ = some (.int .u64 s.id) ∧ W.cell? ⟨h, 1, none⟩ = some (.int .i64 s.off)) 25
    (.flt 0 (.flt 1 (.flt 2 (.flt 3 (.flt 4 (.flt 5 (.flt 6 (.flt 7 (.flt 8 (.flt 9 (.flt 10 (.flt 11 (.flt 12 (.flt 13 (.flt 14 (.flt 15 (.flt 16 (.seg 17 (.seg 18 (.seg 19 (.seg 20 (.seg 21 (.seg 22 (.seg 23 (.seg 24 (.seg 25 (.fin [])))))))))))))))))))))))))))
    (by kernel_rfl) (by kernel_rfl) (fun _ _ _ dst _ h => by cases dst <;> exact h) (fun _ _ h => h) ⟨c0, c1⟩ (fun n0 => ?_)
  repeat (refine tree_flt rfl rfl ?_; apply Exists.intro; refine ⟨fun w' hw' => ?_, ?_⟩; (go_simp; rfl); simp only [Act.put, List.setIfInBounds_toArray, List.set_cons_succ, List.set_cons_zero])
  refine tree_seg rfl ?_
  go_wp2
  refine Halt.mk ⟨.inr ⟨by go_simp, by go_simp⟩, ?_⟩
  iterate 7 (refine tree_seg rfl ?_; go_wp2; refine Halt.mk ⟨.inr ⟨by go_simp, by go_simp⟩, ?_⟩)
  refine tree_seg rfl ?_
  go_wp2
  refine Halt.mk ⟨.inl trivial, ?_⟩
  refine tree_nil ?_
  have hw : (((((w.drewN n0).setCell ⟨h, 2, none⟩ (.int .u64 s.id)).setCell ⟨h, 3, none⟩ (.int .i64 s.off))).setCell ⟨h, 0, none⟩ (.int .u64 i)).heap[h]? = some (.cells #[.int .u64 i, .int .i64 s.off, .int .u64 s.id, .int .i64 s.off, .int .i64 s.size, .slice aq s.L.length cq] 52 (0, 0)) :=
    heap_setCell_same (heap_setCell_same (heap_setCell_same (w := w.drewN n0) (Hid.out H0) 2 _) 3 _) 0 _
  have hk : Kept (fun k => k = h) w ((((w.drewN n0).setCell ⟨h, 2, none⟩ (.int .u64 s.id)).setCell ⟨h, 3, none⟩ (.int .i64 s.off)).setCell ⟨h, 0, none⟩ (.int .u64 i)) :=
    Kept.setCell (S := fun k => k = h) (p := ⟨h, 0, none⟩) (Kept.setCell (S := fun k => k = h) (p := ⟨h, 3, none⟩) (Kept.setCell (S := fun k => k = h) (p := ⟨h, 2, none⟩) ((Kept.refl _ _).drewN n0) (fun _ => rfl) _) (fun _ => rfl) _) (fun _ => rfl) _
  clear c0 c1 c2 c3 c4 c5 f0 f2 f3
  generalize (((w.drewN n0).setCell ⟨h, 2, none⟩ (.int .u64 s.id)).setCell ⟨h, 3, none⟩ (.int .i64 s.off)).setCell ⟨h, 0, none⟩ (.int .u64 i) = w2 at *
  have HW := Lib.hid hw
  have HK := Lib.hid hk
  clear hw hk
  go_wp2
  go_ret
  exact ⟨rfl, ⟨aq, cq, Hid.out HW, Hid.out H1, h2, h3, h4, (Hid.out H5).kept (Hid.out HK) (fun ad e => ((Hid.out H6) ad e).2), Hid.out H6, h7, h8, h9⟩, Hid.out HK⟩

theorem ffollow_bad (h : Nat) (i k : Int) (w : World) (hik : i = 0 ∨ k < 0 ∨ 1125899906842624 < k) :
    Calls Try.prog 35 #[.pointer (some ⟨h, 0, none⟩), .int .u64 i, .int .i64 k] w fun e w' => e = .returned (.int .i64 190) ∧ w = w' := by
  by_cases h1 : i = 0
  · subst h1
    go_enter Try.func35, Try.ntmps35
    go_wp2
    go_ret
    exact ⟨rfl, rfl⟩
  · have hi1 : (i == 0) = false := by simpa using h1
    by_cases h2 : k < 0
    · go_enter Try.func35, Try.ntmps35
      go_wp2
      go_ret
      exact ⟨rfl, rfl⟩
    · have h3 : 1125899906842624 < k := (hik.resolve_left h1).resolve_left h2
      go_enter Try.func35, Try.ntmps35
      go_wp2
      go_ret
      exact ⟨rfl, rfl⟩

set_option maxHeartbeats 1600000 in
theorem ffollow (h : Nat) (q : Option Nat) (s : RS) (i : Int) (k : Nat) (w : World) (hr : Rr w h q s) (hi : i ≠ 0) (hk : k ≤ 1125899906842624) :
    Calls Try.prog 35 #[.pointer (some ⟨h, 0, none⟩), .int .u64 i, .int .i64 k] w fun e w' => e = .returned (.int .i64 0) ∧ Rr w' h none (s.follow i k) ∧ Kept (fun k => k = h) w w' := by
  obtain ⟨aq, cq, h0, h1, h2, h3, h4, h5, h6, h7, h8, h9⟩ := hr
  obtain ⟨c0, c1, c2, c3, c4, c5⟩ := blk6 h0
  have f0 := frozenB h0 0
  have f1 := frozenB h0 1
  have f2 := frozenB h0 2
  have f3 := frozenB h0 3
  have f5 := frozenB h0 5
  have hhs := lt_of_heap h0
  have hn0 : (i == 0) = false := by simpa using hi
  have k1 : ¬ ((k : Int) < 0) := by omega
  have k2 : ¬ ((1125899906842624 : Int) < k) := by omega
  have H0 := Lib.hid h0
  clear h0 h1 h5 h6
  go_enter Try.func35, Try.ntmps35
  go_wp2
  go_ret
  have hw : (((((w.setCell ⟨h, 0, none⟩ (.int .u64 i)).setCell ⟨h, 1, none⟩ (.int .i64 k)).setCell ⟨h, 2, none⟩ (.int .u64 0)).setCell ⟨h, 3, none⟩ (.int .i64 0)).setCell ⟨h, 5, none⟩ (.slice none 0 0)).heap[h]? = some (.cells #[.int .u64 i, .int .i64 k, .int .u64 0, .int .i64 0, .int .i64 s.size, .slice none 0 0] 52 (0, 0)) :=
    heap_setCell_same (heap_setCell_same (heap_setCell_same (heap_setCell_same (heap_setCell_same (Hid.out H0) 0 _) 1 _) 2 _) 3 _) 5 _
  refine ⟨rfl, ⟨none, 0, hw, rfl, Nat.zero_le _, Nat.le_refl _, fun _ => rfl, ⟨rfl, fun h => absurd h (Nat.not_lt_zero 0)⟩, (fun _ h => by cases h), h7, h8, hk⟩,
    Kept.setCell (S := fun k => k = h) (p := ⟨h, 5, none⟩) (Kept.setCell (S := fun k => k = h) (p := ⟨h, 3, none⟩) (Kept.setCell (S := fun k => k = h) (p := ⟨h, 2, none⟩) (Kept.setCell (S := fun k => k = h) (p := ⟨h, 1, none⟩) (Kept.setCell (S := fun k => k = h) (p := ⟨h, 0, none⟩) (Kept.refl _ _) (fun _ => rfl) _) (fun _ => rfl) _) (fun _ => rfl) _) (fun _ => rfl) _) (fun _ => rfl) _⟩
set_option maxHeartbeats 1600000 in
theorem faccepts (h : Nat) (q : Option Nat) (s : RS) (i k : Int) (w : World) (hr : Rr w h q s) :
    Calls Try.prog 22 #[.pointer (some ⟨h, 0, none⟩), .int .u64 i, .int .i64 k] w fun e w' => e = .returned (.bool (s.accepts i k)) ∧ ∃ n, w' = w.drewN n := by
  have hF := ffirst h q s w hr
  obtain ⟨aq, cq, h0, h1, h2, h3, h4, h5, h6, h7, h8, h9⟩ := hr
  obtain ⟨c0, c1, c2, c3, c4, c5⟩ := blk6 h0
  have hv : s.accepts i k = (((!(i == 0)) && (i == s.id || (i == s.second && decide (k ≤ s.fork)))) && decide ((s.first : Int) ≤ k) && decide (k ≤ s.off)) := by
    unfold RS.accepts
    cases (i == 0) <;> cases decide ((s.first : Int) ≤ k) <;> cases decide (k ≤ (s.off : Int)) <;> simp
  rw [hv]
  clear h0 h1 h2 h3 h4 h5 h6 hv
  cases e0 : (i == 0) <;> cases e1 : (i == s.id) <;> cases e2 : (i == s.second) <;> by_cases e3 : k ≤ (s.fork : Int) <;> by_cases e4 : (s.first : Int) ≤ k <;> by_cases e5 : k ≤ (s.off : Int) <;>
  · have e6 := congrArg not e0
    rw [show (!(i == 0)) = (i != 0) from rfl] at e6
    simp only [Bool.not_true, Bool.not_false] at e6
    go_enter Try.func22, Try.ntmps22
    go_wp2_with (go_at_call 21; refine hF.mono ?_; rintro e w1 ⟨rfl, n1, rfl⟩)
    go_ret
    refine ⟨by simp [*], ?_⟩
    first | exact ⟨_, rfl⟩ | exact ⟨0, rfl⟩
end Go.Proofs.Ytlaahdjdlekopaa
