/- The ring and the document's ring side by side: an act of the law. -/
import Derived.Test.YtlaahdjdlekopaaRf4
namespace Go.Proofs.Ytlaahdjdlekopaa
open Go.RowKit
attribute [local go_sem] stillV_value stillV_skip

set_option maxRecDepth 8000 in
set_option maxHeartbeats 3200000 in
theorem act_feed {w0 w : World} {g : Nat} {R : Option Nat} {s : RS} {h : Nat} {q : Option Nat} (bo : Bo w0 w g R s h q s) (ap : Option Addr) (n cap : Nat) (b : List UInt8) (i k : Int) (hb : Holds w0 ap (min n 500) (b.map bv)) (hncap : n ≤ cap) (hz : ap = none → cap = 0) :
    Calls Try.prog 18 #[.pointer (some ⟨g, 0, none⟩), .pointer (some ⟨h, 0, none⟩), .agg #[.int .i64 1, .slice ap n cap, .int .u64 i, .int .i64 k]] w fun e w' => e = .returned (.bool true) ∧ ∃ R' q', Bo w0 w' g R' (s.fed b) h q' (s.fed b) := by
  have bo1 := bo.keptNo (Kept.allocd w (.cells #[.int .i64 1, .slice ap n cap, .int .u64 i, .int .i64 k] 45))
  have BO := Lib.hid bo1
  have hlg := bo.inn.rg.lt
  have hlR : ∀ r, R = some r → r < w.heap.size := fun r e => (bo.inn.rg.ring e).1
  have hne1 : ¬ (w.heap.size = g ∨ R = some w.heap.size) := fun hh => hh.elim (fun e => by omega) (fun e => by have := hlR _ e; omega)
  have hne2 : ¬ (w.heap.size = h) := fun e => by have := bo.rr.lt; omega
  have hne3 : ¬ (w.heap.size = g) := fun e => by omega
  have hbx := heap_alloc_same (w := w) (.cells #[.int .i64 1, .slice ap n cap, .int .u64 i, .int .i64 k] 45)
  have HX := Lib.hid hbx
  have HN1 := Lib.hid hne1
  have HN2 := Lib.hid hne2
  have HN3 := Lib.hid hne3
  have y1 : 500 < n → ∃ ad, ap = some ad := fun h => by cases ap with | none => have := hz rfl; omega | some ad => exact ⟨ad, rfl⟩
  have Y1 := Lib.hid (fun w => rcut ap n cap w y1 hncap)
  obtain ⟨m, e1⟩ : ∃ m, min n 500 = m := ⟨_, rfl⟩
  rw [e1] at hb Y1
  have hm : m ≤ 500 := by omega
  have hmc : m ≤ cap := by omega
  have HB := Lib.hid hb
  have HZ := Lib.hid hz
  clear y1 hb hz
  clear bo bo1 hlR hne1 hne2 hne3 hbx
  go_enter Try.func18, Try.ntmps18
  go_wp2
  refine wp_tree (fun W => W.cell? ⟨w.heap.size, 1, none⟩ = some (.slice ap n cap)) 11
    (.flt 0 (.flt 1 (.flt 2 (.flt 5 (.flt 6 (.flt 7 (.seg 3 (.seg 4 (.seg 8 (.seg 9 (.fin [10, 11])))))))))))
    (by kernel_rfl) (by kernel_rfl) (fun _ _ _ dst _ h => by cases dst <;> exact h) (fun _ _ h => h) (by go_simp) (fun n0 => ?_)
  repeat (refine tree_flt rfl rfl ?_; apply Exists.intro; refine ⟨fun w' hw' => ?_, ?_⟩; (go_simp; rfl); simp only [Act.put, List.setIfInBounds_toArray, List.set_cons_succ, List.set_cons_zero])
  have hbxA : ((w.alloc (.cells #[.int .i64 1, .slice ap n cap, .int .u64 i, .int .i64 k] 45)).drewN n0).heap[w.heap.size]? = some (.cells #[.int .i64 1, .slice ap n cap, .int .u64 i, .int .i64 k] 45 (0, 0)) := Hid.out HX
  have boA := (Hid.out BO).keptNo ((Kept.refl _ _).drewN n0)
  clear BO HX hlg
  generalize (w.alloc (.cells #[.int .i64 1, .slice ap n cap, .int .u64 i, .int .i64 k] 45)).drewN n0 = wA at *
  generalize w.heap.size = β at *
  have HXA := Lib.hid hbxA
  clear hbxA
  refine tree_seg rfl ?_
  go_wp2_with (go_at_call 11; refine ((Hid.out Y1) _).mono ?_; rintro e w1 ⟨rfl, rfl⟩)
  refine Halt.mk ⟨.inr (cellB (Hid.out HXA) rfl), ?_⟩
  refine tree_seg rfl ?_
  go_wp2_with (go_at_call 12; refine (boA.feedX ap m cap b (Hid.out HB) hmc (Hid.out HZ)).mono ?_; rintro e w2 ⟨rfl, R2, boB, hkB⟩)
  have hbxB := hkB.heap (Hid.out HXA) (Hid.out HN1)
  have HXB := Lib.hid hbxB
  clear hbxB hkB
  refine Halt.mk ⟨.inr (cellB (Hid.out HXB) rfl), ?_⟩
  refine tree_seg rfl ?_
  go_wp2_with (go_at_call 11; refine ((Hid.out Y1) _).mono ?_; rintro e w1 ⟨rfl, rfl⟩)
  refine Halt.mk ⟨.inr (cellB (Hid.out HXB) rfl), ?_⟩
  refine tree_seg rfl ?_
  go_wp2_with (go_at_call 33; refine (boB.feedR ap m cap b (Hid.out HB) hmc (Hid.out HZ) (by omega)).mono ?_; rintro e w3 ⟨rfl, q3, boC, hkC⟩)
  have hbxC := hkC.heap (Hid.out HXB) (Hid.out HN2)
  have HXC := Lib.hid hbxC
  clear hbxC hkC
  refine Halt.mk ⟨.inr (cellB (Hid.out HXC) rfl), ?_⟩
  refine tree_fin ?_
  simp only [pick, List.filterMap_cons, List.filterMap_nil, List.getElem?_cons_succ, List.getElem?_cons_zero]
  repeat (quiet_step (fail))
  refine wpQuiet_nil ?_
  rintro _ ⟨n9, rfl⟩
  go_wp2
  go_ret
  exact ⟨rfl, _, _, boC.keptNo ((Kept.refl _ _).drewN n9)⟩

set_option maxRecDepth 8000 in
set_option maxHeartbeats 3200000 in
theorem act_fork {w0 w : World} {g : Nat} {R : Option Nat} {s : RS} {h : Nat} {q : Option Nat} (bo : Bo w0 w g R s h q s) (ap : Option Addr) (n cap : Nat) (b : List UInt8) (i k : Int) :
    Calls Try.prog 18 #[.pointer (some ⟨g, 0, none⟩), .pointer (some ⟨h, 0, none⟩), .agg #[.int .i64 2, .slice ap n cap, .int .u64 i, .int .i64 k]] w fun e w' => e = .returned (.bool true) ∧ ∃ R' q', Bo w0 w' g R' (s.forked i) h q' (s.forked i) := by
  have bo1 := bo.keptNo (Kept.allocd w (.cells #[.int .i64 2, .slice ap n cap, .int .u64 i, .int .i64 k] 45))
  have BO := Lib.hid bo1
  have hlg := bo.inn.rg.lt
  have hlR : ∀ r, R = some r → r < w.heap.size := fun r e => (bo.inn.rg.ring e).1
  have hne1 : ¬ (w.heap.size = g ∨ R = some w.heap.size) := fun hh => hh.elim (fun e => by omega) (fun e => by have := hlR _ e; omega)
  have hne2 : ¬ (w.heap.size = h) := fun e => by have := bo.rr.lt; omega
  have hne3 : ¬ (w.heap.size = g) := fun e => by omega
  have hbx := heap_alloc_same (w := w) (.cells #[.int .i64 2, .slice ap n cap, .int .u64 i, .int .i64 k] 45)
  have HX := Lib.hid hbx
  have HN1 := Lib.hid hne1
  have HN2 := Lib.hid hne2
  have HN3 := Lib.hid hne3
  clear bo bo1 hlR hne1 hne2 hne3 hbx
  go_enter Try.func18, Try.ntmps18
  go_wp2
  refine wp_tree (fun W => W.cell? ⟨w.heap.size, 2, none⟩ = some (.int .u64 i)) 9
    (.flt 0 (.flt 1 (.flt 2 (.flt 4 (.flt 5 (.flt 6 (.seg 3 (.seg 7 (.fin [8, 9])))))))))
    (by kernel_rfl) (by kernel_rfl) (fun _ _ _ dst _ h => by cases dst <;> exact h) (fun _ _ h => h) (by go_simp) (fun n0 => ?_)
  repeat (refine tree_flt rfl rfl ?_; apply Exists.intro; refine ⟨fun w' hw' => ?_, ?_⟩; (go_simp; rfl); simp only [Act.put, List.setIfInBounds_toArray, List.set_cons_succ, List.set_cons_zero])
  have hbxA : ((w.alloc (.cells #[.int .i64 2, .slice ap n cap, .int .u64 i, .int .i64 k] 45)).drewN n0).heap[w.heap.size]? = some (.cells #[.int .i64 2, .slice ap n cap, .int .u64 i, .int .i64 k] 45 (0, 0)) := Hid.out HX
  have boA := (Hid.out BO).keptNo ((Kept.refl _ _).drewN n0)
  clear BO HX hlg
  generalize (w.alloc (.cells #[.int .i64 2, .slice ap n cap, .int .u64 i, .int .i64 k] 45)).drewN n0 = wA at *
  generalize w.heap.size = β at *
  have HXA := Lib.hid hbxA
  clear hbxA
  refine tree_seg rfl ?_
  go_wp2_with (go_at_call 13; refine (boA.forkX i).mono ?_; rintro e w2 ⟨rfl, boB, hkB⟩)
  have hbxB := hkB.heap (Hid.out HXA) (Hid.out HN3)
  have HXB := Lib.hid hbxB
  clear hbxB hkB
  refine Halt.mk ⟨.inr (cellB (Hid.out HXB) rfl), ?_⟩
  refine tree_seg rfl ?_
  go_wp2_with (go_at_call 34; refine (boB.forkR i).mono ?_; rintro e w3 ⟨rfl, boC, hkC⟩)
  have hbxC := hkC.heap (Hid.out HXB) (Hid.out HN2)
  have HXC := Lib.hid hbxC
  clear hbxC hkC
  refine Halt.mk ⟨.inr (cellB (Hid.out HXC) rfl), ?_⟩
  refine tree_fin ?_
  simp only [pick, List.filterMap_cons, List.filterMap_nil, List.getElem?_cons_succ, List.getElem?_cons_zero]
  repeat (quiet_step (fail))
  refine wpQuiet_nil ?_
  rintro _ ⟨n9, rfl⟩
  go_wp2
  go_ret
  exact ⟨rfl, _, _, boC.keptNo ((Kept.refl _ _).drewN n9)⟩

set_option maxRecDepth 8000 in
set_option maxHeartbeats 3200000 in
theorem act_follow {w0 w : World} {g : Nat} {R : Option Nat} {s : RS} {h : Nat} {q : Option Nat} (bo : Bo w0 w g R s h q s) (ap : Option Addr) (n cap : Nat) (b : List UInt8) (i k : Int) :
    Calls Try.prog 18 #[.pointer (some ⟨g, 0, none⟩), .pointer (some ⟨h, 0, none⟩), .agg #[.int .i64 3, .slice ap n cap, .int .u64 i, .int .i64 k]] w fun e w' => e = .returned (.bool true) ∧ ∃ R' q', Bo w0 w' g R' (s.followed i k) h q' (s.followed i k) := by
  have bo1 := bo.keptNo (Kept.allocd w (.cells #[.int .i64 3, .slice ap n cap, .int .u64 i, .int .i64 k] 45))
  have BO := Lib.hid bo1
  have hlg := bo.inn.rg.lt
  have hlR : ∀ r, R = some r → r < w.heap.size := fun r e => (bo.inn.rg.ring e).1
  have hne1 : ¬ (w.heap.size = g ∨ R = some w.heap.size) := fun hh => hh.elim (fun e => by omega) (fun e => by have := hlR _ e; omega)
  have hne2 : ¬ (w.heap.size = h) := fun e => by have := bo.rr.lt; omega
  have hne3 : ¬ (w.heap.size = g) := fun e => by omega
  have hbx := heap_alloc_same (w := w) (.cells #[.int .i64 3, .slice ap n cap, .int .u64 i, .int .i64 k] 45)
  have HX := Lib.hid hbx
  have HN1 := Lib.hid hne1
  have HN2 := Lib.hid hne2
  have HN3 := Lib.hid hne3
  clear bo bo1 hlR hne1 hne2 hne3 hbx
  go_enter Try.func18, Try.ntmps18
  go_wp2
  refine wp_tree (fun W => W.cell? ⟨w.heap.size, 2, none⟩ = some (.int .u64 i) ∧ W.cell? ⟨w.heap.size, 3, none⟩ = some (.int .i64 k)) 13
    (.flt 0 (.flt 1 (.flt 2 (.flt 3 (.flt 4 (.flt 6 (.flt 7 (.flt 8 (.flt 9 (.flt 10 (.seg 5 (.seg 11 (.fin [12, 13])))))))))))))
    (by kernel_rfl) (by kernel_rfl) (fun _ _ _ dst _ h => by cases dst <;> exact h) (fun _ _ h => h) ⟨by go_simp, by go_simp⟩ (fun n0 => ?_)
  repeat (refine tree_flt rfl rfl ?_; apply Exists.intro; refine ⟨fun w' hw' => ?_, ?_⟩; (go_simp; rfl); simp only [Act.put, List.setIfInBounds_toArray, List.set_cons_succ, List.set_cons_zero])
  have hbxA : ((w.alloc (.cells #[.int .i64 3, .slice ap n cap, .int .u64 i, .int .i64 k] 45)).drewN n0).heap[w.heap.size]? = some (.cells #[.int .i64 3, .slice ap n cap, .int .u64 i, .int .i64 k] 45 (0, 0)) := Hid.out HX
  have boA := (Hid.out BO).keptNo ((Kept.refl _ _).drewN n0)
  clear BO HX hlg
  generalize (w.alloc (.cells #[.int .i64 3, .slice ap n cap, .int .u64 i, .int .i64 k] 45)).drewN n0 = wA at *
  generalize w.heap.size = β at *
  have HXA := Lib.hid hbxA
  clear hbxA
  refine tree_seg rfl ?_
  go_wp2_with (go_at_call 28; refine (boA.followX i k).mono ?_; rintro e w2 ⟨rfl, R2, boB, hkB⟩)
  have hbxB := hkB.heap (Hid.out HXA) (Hid.out HN3)
  have HXB := Lib.hid hbxB
  clear hbxB hkB
  refine Halt.mk ⟨.inr ⟨cellB (Hid.out HXB) rfl, cellB (Hid.out HXB) rfl⟩, ?_⟩
  refine tree_seg rfl ?_
  go_wp2_with (go_at_call 35; refine (boB.followR i k).mono ?_; rintro e w3 ⟨rfl, q3, boC, hkC⟩)
  have hbxC := hkC.heap (Hid.out HXB) (Hid.out HN2)
  have HXC := Lib.hid hbxC
  clear hbxC hkC
  refine Halt.mk ⟨.inr ⟨cellB (Hid.out HXC) rfl, cellB (Hid.out HXC) rfl⟩, ?_⟩
  refine tree_fin ?_
  simp only [pick, List.filterMap_cons, List.filterMap_nil, List.getElem?_cons_succ, List.getElem?_cons_zero]
  repeat (quiet_step (fail))
  refine wpQuiet_nil ?_
  rintro _ ⟨n9, rfl⟩
  go_wp2
  go_ret
  exact ⟨rfl, _, _, boC.keptNo ((Kept.refl _ _).drewN n9)⟩

set_option maxHeartbeats 1600000 in
theorem act_none {w0 w : World} {g : Nat} {R : Option Nat} {s : RS} {h : Nat} {q : Option Nat} (bo : Bo w0 w g R s h q s) (ap : Option Addr) (n cap : Nat) (kd i k : Int) (h1 : kd ≠ 1) (h2 : kd ≠ 2) (h3 : kd ≠ 3) :
    Calls Try.prog 18 #[.pointer (some ⟨g, 0, none⟩), .pointer (some ⟨h, 0, none⟩), .agg #[.int .i64 kd, .slice ap n cap, .int .u64 i, .int .i64 k]] w fun e w' => e = .returned (.bool true) ∧ ∃ R' q', Bo w0 w' g R' s h q' s := by
  have k1 : (kd == 1) = false := by simpa using h1
  have k2 : (kd == 2) = false := by simpa using h2
  have k3 : (kd == 3) = false := by simpa using h3
  have bo1 := bo.keptNo (Kept.allocd w (.cells #[.int .i64 kd, .slice ap n cap, .int .u64 i, .int .i64 k] 45))
  go_enter Try.func18, Try.ntmps18
  go_wp2
  go_ret
  exact ⟨rfl, _, _, bo1⟩

/-- What an act makes of a state. -/
def RS.act (s : RS) (kd : Int) (b : List UInt8) (i k : Int) : RS := if kd = 1 then s.fed b else if kd = 2 then s.forked i else if kd = 3 then s.followed i k else s

theorem act_any {w0 w : World} {g : Nat} {R : Option Nat} {s : RS} {h : Nat} {q : Option Nat} (bo : Bo w0 w g R s h q s) (ap : Option Addr) (n cap : Nat) (b : List UInt8) (kd i k : Int) (hb : Holds w0 ap (min n 500) (b.map bv)) (hncap : n ≤ cap) (hz : ap = none → cap = 0) :
    Calls Try.prog 18 #[.pointer (some ⟨g, 0, none⟩), .pointer (some ⟨h, 0, none⟩), .agg #[.int .i64 kd, .slice ap n cap, .int .u64 i, .int .i64 k]] w fun e w' => e = .returned (.bool true) ∧ ∃ R' q', Bo w0 w' g R' (s.act kd b i k) h q' (s.act kd b i k) := by
  unfold RS.act
  by_cases h1 : kd = 1
  · subst h1; rw [if_pos rfl]; exact act_feed bo ap n cap b i k hb hncap hz
  · rw [if_neg h1]
    by_cases h2 : kd = 2
    · subst h2; rw [if_pos rfl]; exact act_fork bo ap n cap b i k
    · rw [if_neg h2]
      by_cases h3 : kd = 3
      · subst h3; rw [if_pos rfl]; exact act_follow bo ap n cap b i k
      · rw [if_neg h3]; exact act_none bo ap n cap kd i k h1 h2 h3
end Go.Proofs.Ytlaahdjdlekopaa
