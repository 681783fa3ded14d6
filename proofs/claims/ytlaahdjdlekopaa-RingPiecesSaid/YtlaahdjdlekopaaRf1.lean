/- The document's ring: how it lies in memory; what it answers. -/
import Derived.Test.YtlaahdjdlekopaaRi1
import Derived.Test.YtlaahdjdlekopaaTree
import Derived.Test.YtlaahdjdlekopaaRst
import Derived.Test.YtlaahdjdlekopaaRgo
namespace Go.Proofs.Ytlaahdjdlekopaa
open Go.RowKit
attribute [local go_sem] stillV_value stillV_skip

theorem Kept.cell {S : Nat → Prop} {a b : World} {p : Addr} {v : Value} (h : Kept S a b) (hc : a.cell? p = some v) (hS : ¬ S p.block) : b.cell? p = some v := by
  have hlt : p.block < a.heap.size := by
    apply Nat.lt_of_not_le
    intro hle
    simp [World.cell?, hle] at hc
  rw [World.cell?, h.block _ hlt hS]
  exact hc

/-- The document's ring at block h is in that state; its bytes lie in block q. -/
def Rr (w : World) (h : Nat) (q : Option Nat) (s : RS) : Prop :=
  ∃ (ap : Option Addr) (cap : Nat),
    w.heap[h]? = some (.cells #[.int .u64 s.id, .int .i64 s.off, .int .u64 s.second, .int .i64 s.fork, .int .i64 s.size, .slice ap s.L.length cap] 52 (0, 0)) ∧
    s.off = s.first + s.L.length ∧ s.L.length ≤ s.size ∧ s.L.length ≤ cap ∧ (ap = none → cap = 0) ∧ Holds w ap s.L.length (s.L.map bv) ∧ (∀ ad, ap = some ad → q = some ad.block ∧ ad.block ≠ h) ∧
    1 ≤ s.size ∧ s.size ≤ 16777216 ∧ s.off ≤ 1125899906842624

theorem Rr.kept {S : Nat → Prop} {w w' : World} {h : Nat} {q : Option Nat} {s : RS} (hr : Rr w h q s) (hk : Kept S w w') (hh : ¬ S h) (hq : ∀ k, q = some k → ¬ S k) : Rr w' h q s := by
  obtain ⟨ap, cap, h0, h1, h2, h3, h4, h5, h6, h7⟩ := hr
  exact ⟨ap, cap, hk.heap h0 hh, h1, h2, h3, h4, h5.kept hk (fun ad e => hq _ (h6 ad e).1), h6, h7⟩
theorem Rr.keptNo {w w' : World} {h : Nat} {q : Option Nat} {s : RS} (hr : Rr w h q s) (hk : Kept NoBlock w w') : Rr w' h q s := hr.kept hk (fun h => h) (fun _ _ h => h)
theorem Rr.lt {w : World} {h : Nat} {q : Option Nat} {s : RS} (hr : Rr w h q s) : h < w.heap.size := by obtain ⟨_, _, h0, _⟩ := hr; exact lt_of_heap h0

theorem blk6 {w : World} {g : Nat} {c0 c1 c2 c3 c4 c5 : Value} {T : TypeId} (h : w.heap[g]? = some (.cells #[c0, c1, c2, c3, c4, c5] T (0, 0))) :
    w.cell? ⟨g, 0, none⟩ = some c0 ∧ w.cell? ⟨g, 1, none⟩ = some c1 ∧ w.cell? ⟨g, 2, none⟩ = some c2 ∧ w.cell? ⟨g, 3, none⟩ = some c3 ∧ w.cell? ⟨g, 4, none⟩ = some c4 ∧ w.cell? ⟨g, 5, none⟩ = some c5 :=
  ⟨cellB h rfl, cellB h rfl, cellB h rfl, cellB h rfl, cellB h rfl, cellB h rfl⟩

theorem fnew (size id : Int) (w : World) (h1 : 1 ≤ size) (h2 : size ≤ 16777216) (hid : id ≠ 0) :
    Calls Try.prog 17 #[.int .i64 size, .int .u64 id] w fun e w' => e = .returned (.tuple #[.pointer (some ⟨w.heap.size, 0, none⟩), .int .i64 0]) ∧ Rr w' w.heap.size none ⟨id, 0, 0, 0, 0, size.toNat, []⟩ ∧ Kept NoBlock w w' := by
  have hid' : (id == 0) = false := by simpa using hid
  go_enter Try.func17, Try.ntmps17
  go_wp2
  go_ret2
  refine ⟨rfl, ⟨none, 0, ?_, rfl, Nat.zero_le _, Nat.le_refl _, fun _ => rfl, ⟨rfl, fun h => absurd h (by simp)⟩, (fun _ h => by cases h), by show 1 ≤ size.toNat; omega, by show size.toNat ≤ _; omega, by simp⟩, Kept.allocd _ _⟩
  rw [heap_alloc_same]
  have : ((size.toNat : Nat) : Int) = size := by omega
  simp [this]

theorem fnew_bad (size id : Int) (w : World) (h : ¬ (1 ≤ size ∧ size ≤ 16777216 ∧ id ≠ 0)) :
    Calls Try.prog 17 #[.int .i64 size, .int .u64 id] w fun e w' => e = .returned (.tuple #[.pointer none, .int .i64 190]) ∧ w = w' := by
  by_cases c1 : size < 1
  · go_enter Try.func17, Try.ntmps17
    go_wp2
    go_ret2
    exact ⟨rfl, rfl⟩
  · by_cases c2 : 16777216 < size
    · go_enter Try.func17, Try.ntmps17
      go_wp2
      go_ret2
      exact ⟨rfl, rfl⟩
    · obtain rfl : id = 0 := by omega
      go_enter Try.func17, Try.ntmps17
      go_wp2
      go_ret2
      exact ⟨rfl, rfl⟩

theorem ffirst (h : Nat) (q : Option Nat) (s : RS) (w : World) (hr : Rr w h q s) :
    Calls Try.prog 21 #[.pointer (some ⟨h, 0, none⟩)] w fun e w' => e = .returned (.int .i64 s.first) ∧ ∃ n, w' = w.drewN n := by
  obtain ⟨ap, cap, h0, h1, h2, h3, h4, h5, h6, h7, h8, h9⟩ := hr
  obtain ⟨c0, c1, c2, c3, c4, c5⟩ := blk6 h0
  have hsub : (s.off : Int) - (s.L.length : Int) = s.first := by omega
  have hfb : s.first ≤ 1125899906842624 := by omega
  have hw : IntKind.i64.wrap (s.first : Int) = s.first := IntWalk.i64_in _ (by omega)
  clear h0 h1
  go_enter Try.func21, Try.ntmps21
  go_wp2
  go_quiet (fail)
  go_wp2
  go_ret
  exact ⟨rfl, _, rfl⟩

set_option maxHeartbeats 1600000 in
theorem ffrom_out (h : Nat) (q : Option Nat) (s : RS) (k : Int) (w : World) (hr : Rr w h q s) (hk : k < s.first ∨ s.off < k) :
    Calls Try.prog 19 #[.pointer (some ⟨h, 0, none⟩), .int .i64 k] w fun e w' => e = .returned (.tuple #[.slice none 0 0, .int .i64 191]) ∧ ∃ n, w' = w.drewN n := by
  have hF := ffirst h q s w hr
  obtain ⟨ap, cap, h0, h1, h2, h3, h4, h5, h6, h7, h8, h9⟩ := hr
  obtain ⟨c0, c1, c2, c3, c4, c5⟩ := blk6 h0
  clear h0 h1
  by_cases hk1 : k < s.first
  · go_enter Try.func19, Try.ntmps19
    go_wp2_with (go_at_call 21; refine hF.mono ?_; rintro e w1 ⟨rfl, n1, rfl⟩)
    go_ret2
    exact ⟨rfl, _, rfl⟩
  · have hk2 := hk.resolve_left hk1
    go_enter Try.func19, Try.ntmps19
    go_wp2_with (go_at_call 21; refine hF.mono ?_; rintro e w1 ⟨rfl, n1, rfl⟩)
    go_ret2
    exact ⟨rfl, _, rfl⟩

set_option maxHeartbeats 3200000 in
theorem ffrom_in (h : Nat) (q : Option Nat) (s : RS) (j kk : Nat) (w : World) (hr : Rr w h q s) (hj : j ≤ s.L.length) (hk : kk = s.first + j) :
    Calls Try.prog 19 #[.pointer (some ⟨h, 0, none⟩), .int .i64 kk] w fun e w' => ∃ ap cap, e = .returned (.tuple #[.slice ap (s.L.length - j) cap, .int .i64 0]) ∧ Holds w' ap (s.L.length - j) ((s.L.drop j).map bv) ∧ (∀ ad, ap = some ad → w.heap.size ≤ ad.block) ∧ (ap = none → cap = 0) ∧ s.L.length - j ≤ cap ∧ Kept NoBlock w w' := by
  have hR := hr
  obtain ⟨ap, cap, h0, h1, h2, h3, h4, h5, h6, h7, h8, h9⟩ := hr
  obtain ⟨c0, c1, c2, c3, c4, c5⟩ := blk6 h0
  have q1 : ¬ ((kk : Int) < s.first) := by omega
  have q2 : ¬ ((s.off : Int) < kk) := by omega
  obtain ⟨i0, hi, hz0, hz1, hz2⟩ := info_parts binfo
  have hjI : (kk : Int) - (s.first : Int) = j := by omega
  have hjw : IntKind.i64.wrap (j : Int) = j := IntWalk.i64_in _ (by omega)
  have hkb : kk ≤ 1125899906842624 := by omega
  have hgl := lt_of_heap h0
  cases ap with
  | none =>
    obtain rfl : cap = 0 := h4 rfl
    have hM : s.L.length = 0 := by omega
    obtain rfl : j = 0 := by omega
    have hLL := h5
    rw [hM] at c5 hLL
    have hjI0 : (kk : Int) - (s.first : Int) = 0 := by omega
    have hwz : IntKind.i64.wrap 0 = 0 := IntWalk.i64_in _ (by omega)
    have H1 := Lib.hid h1
    have HK := Lib.hid hk
    have HM := Lib.hid hM
    have hbl : (s.L.drop 0).length = 0 := by rw [List.drop_zero]; exact hM
    generalize hM2 : s.L.length - 0 = MM
    obtain rfl : MM = 0 := by omega
    clear hM2 h1 hk h0 h2 h3 hj h5 h6 hjI hjw hM
    go_enter Try.func19, Try.ntmps19
    go_wp2_with (go_at_call 21; refine (ffirst h q s w hR).mono ?_; rintro e w1 ⟨rfl, n1, rfl⟩)
    have c5' : (w.drewN n1).cell? ⟨h, 5, none⟩ = some (.slice none 0 0) := c5
    refine wp_tree (fun W => W.cell? ⟨h, 5, none⟩ = some (.slice none 0 0)) 10
      (.flt 1 (.flt 2 (.flt 3 (.flt 4 (.flt 5 (.flt 6 (.two 0 (.seg 7 (.flt 8 (.flt 9 (.seg 10 (.fin [11, 12]))))) 7 (.flt 8 (.flt 9 (.seg 0 (.seg 10 (.fin [11, 12]))))))))))))
      (by kernel_rfl) (by kernel_rfl) (fun _ _ _ dst _ h => by cases dst <;> exact h) (fun _ _ h => h) c5' (fun n0 => ?_)
    obtain ⟨w0, hw0⟩ : ∃ w0, w0 = (w.drewN n1).drewN n0 := ⟨_, rfl⟩
    rw [← hw0]
    have hw0s : Hid (w0.heap.size = w.heap.size) := by refine Lib.hid ?_; rw [hw0]; rfl
    have hk0 : Kept NoBlock w w0 := by rw [hw0]; exact ((Kept.refl _ _).drewN n1).drewN n0
    have hR0 := hR.keptNo hk0
    have hgl0 : h < w0.heap.size := hR0.lt
    have d5 : w0.cell? ⟨h, 5, none⟩ = some (.slice none 0 0) := by rw [hw0]; exact c5
    have hL0 : Holds w0 none 0 (s.L.map bv) := hLL.kept hk0 (fun _ _ h => h)
    clear hw0 c0 c1 c2 c3 c4 c5 c5'
    repeat (refine tree_flt rfl rfl ?_; apply Exists.intro; refine ⟨fun w' hw' => ?_, ?_⟩; (go_simp; rfl); simp only [Act.put, List.setIfInBounds_toArray, List.set_cons_succ, List.set_cons_zero])
    refine tree_two rfl rfl ?_ ?_
    · go_wp2
      have hka : Kept NoBlock w0 (w0.alloc (.cells #[] 5)) := Kept.allocd _ _
      refine Halt.mk ⟨.inr (by go_simp), ?_⟩
      refine tree_seg rfl ?_
      go_wp2_with (go_at_call 21; refine (ffirst h q s _ (hR0.keptNo hka)).mono ?_; rintro e w5 ⟨rfl, n5, rfl⟩)
      refine Halt.mk ⟨.inr (by go_simp), ?_⟩
      repeat (refine tree_flt rfl rfl ?_; apply Exists.intro; refine ⟨fun w' hw' => ?_, ?_⟩; (go_simp; rfl); simp only [Act.put, List.setIfInBounds_toArray, List.set_cons_succ, List.set_cons_zero])
      have hmade : ((w0.alloc (.cells #[] 5)).drewN n5).ownsRow w0.heap.size 5 1 (.slice (some ⟨w0.heap.size, 0, none⟩) 0 0) 0 [] := fresh_nil w0
      have hkm : Kept NoBlock w ((w0.alloc (.cells #[] 5)).drewN n5) := (hk0.trans hka).drewN n5
      have hsrc : Holds ((w0.alloc (.cells #[] 5)).drewN n5) none 0 ((s.L.drop 0).map bv) := (by rw [List.drop_zero]; exact hL0 : Holds w0 none 0 ((s.L.drop 0).map bv)).kept ((Kept.refl NoBlock w0).alloc _ |>.drewN n5) (fun _ _ h => h)
      have hbase : w0.heap.size ≤ ((w0.alloc (.cells #[] 5)).drewN n5).heap.size := by simp
      refine tree_seg rfl ?_
      go_wp2_with (at_builtin; refine wpList_append_holds rfl _ _ 22 rfl w0.heap.size 5 i0 (.int .u8 0) 1 Try.underlying22 hi hz0 hz1 hz2 rfl _ 0 [] rfl hmade none 0 0 _ rfl hsrc (fun _ => rfl) (bv_one _) (by unfold maxLen; omega) (by omega) hbase ?_; intro v' w7 hrow hgr; have hk7 : Kept NoBlock w w7 := (hkm.grown hgr (fun k e hk => absurd (hmade.lt k e).1 (by have := Hid.out hw0s; omega))); clear hgr; refine Hid.out ?_)
      refine Lib.hid ?_
      rw [Nat.zero_add, List.nil_append] at hrow
      obtain ⟨ap7, cap7, rfl, hz7, hc7⟩ := ownsRow_form2 hrow
      have hA7 := ownsRow_holds hrow
      have hAl := ownsRow_lt hrow
      clear hrow hmade hsrc hkm hbase
      go_wp2
      refine Halt.mk ?_
      refine tree_fin ?_
      simp only [pick, List.filterMap_cons, List.filterMap_nil, List.getElem?_cons_succ, List.getElem?_cons_zero]
      repeat (quiet_step (fail))
      refine wpQuiet_nil ?_
      rintro _ ⟨n9, rfl⟩
      go_wp2
      go_ret2
      exact ⟨ap7, cap7, rfl, hA7, fun ad e => by have h1 : w0.heap.size ≤ ad.block := (hAl ad e).2; rw [Hid.out hw0s] at h1; exact h1, hz7, hc7, hk7.drewN _⟩
    · go_wp2_with (go_at_call 21; refine (ffirst h q s _ hR0).mono ?_; rintro e w5 ⟨rfl, n5, rfl⟩)
      refine Halt.mk ⟨.inr (by go_simp), ?_⟩
      repeat (refine tree_flt rfl rfl ?_; apply Exists.intro; refine ⟨fun w' hw' => ?_, ?_⟩; (go_simp; rfl); simp only [Act.put, List.setIfInBounds_toArray, List.set_cons_succ, List.set_cons_zero])
      refine tree_seg rfl ?_
      go_wp2
      refine Halt.mk ⟨.inr ((((Kept.refl NoBlock w0).drewN n5).alloc _).cell d5 (fun h => h)), ?_⟩
      have hmade : ((w0.drewN n5).alloc (.cells #[] 5)).ownsRow w0.heap.size 5 1 (.slice (some ⟨w0.heap.size, 0, none⟩) 0 0) 0 [] := fresh_nil (w0.drewN n5)
      have hkm : Kept NoBlock w ((w0.drewN n5).alloc (.cells #[] 5)) := (hk0.drewN n5).alloc _
      have hsrc : Holds ((w0.drewN n5).alloc (.cells #[] 5)) none 0 ((s.L.drop 0).map bv) := (by rw [List.drop_zero]; exact hL0 : Holds w0 none 0 ((s.L.drop 0).map bv)).kept (((Kept.refl NoBlock w0).drewN n5).alloc _) (fun _ _ h => h)
      have hbase : w0.heap.size ≤ ((w0.drewN n5).alloc (.cells #[] 5)).heap.size := by simp
      refine tree_seg rfl ?_
      go_wp2_with (at_builtin; refine wpList_append_holds rfl _ _ 22 rfl w0.heap.size 5 i0 (.int .u8 0) 1 Try.underlying22 hi hz0 hz1 hz2 rfl _ 0 [] rfl hmade none 0 0 _ rfl hsrc (fun _ => rfl) (bv_one _) (by unfold maxLen; omega) (by omega) hbase ?_; intro v' w7 hrow hgr; have hk7 : Kept NoBlock w w7 := (hkm.grown hgr (fun k e hk => absurd (hmade.lt k e).1 (by have := Hid.out hw0s; omega))); clear hgr; refine Hid.out ?_)
      refine Lib.hid ?_
      rw [Nat.zero_add, List.nil_append] at hrow
      obtain ⟨ap7, cap7, rfl, hz7, hc7⟩ := ownsRow_form2 hrow
      have hA7 := ownsRow_holds hrow
      have hAl := ownsRow_lt hrow
      clear hrow hmade hsrc hkm hbase
      go_wp2
      refine Halt.mk ?_
      refine tree_fin ?_
      simp only [pick, List.filterMap_cons, List.filterMap_nil, List.getElem?_cons_succ, List.getElem?_cons_zero]
      repeat (quiet_step (fail))
      refine wpQuiet_nil ?_
      rintro _ ⟨n9, rfl⟩
      go_wp2
      go_ret2
      exact ⟨ap7, cap7, rfl, hA7, fun ad e => by have h1 : w0.heap.size ≤ ad.block := (hAl ad e).2; rw [Hid.out hw0s] at h1; exact h1, hz7, hc7, hk7.drewN _⟩
  | some ad =>
    have hLL := h5
    generalize hM : s.L.length = M at c5 h2 h3 hj hLL ⊢
    have hMb : M ≤ 16777216 := by omega
    have H1 := Lib.hid h1
    have HK := Lib.hid hk
    have hjc : j ≤ cap := by omega
    clear hM h1 hk h0 h5 h6
    go_enter Try.func19, Try.ntmps19
    go_wp2_with (go_at_call 21; refine (ffirst h q s w hR).mono ?_; rintro e w1 ⟨rfl, n1, rfl⟩)
    have c5' : (w.drewN n1).cell? ⟨h, 5, none⟩ = some (.slice (some ad) M cap) := c5
    refine wp_tree (fun W => W.cell? ⟨h, 5, none⟩ = some (.slice (some ad) M cap)) 10
      (.flt 1 (.flt 2 (.flt 3 (.flt 4 (.flt 5 (.flt 6 (.two 0 (.seg 7 (.flt 8 (.flt 9 (.seg 10 (.fin [11, 12]))))) 7 (.flt 8 (.flt 9 (.seg 0 (.seg 10 (.fin [11, 12]))))))))))))
      (by kernel_rfl) (by kernel_rfl) (fun _ _ _ dst _ h => by cases dst <;> exact h) (fun _ _ h => h) c5' (fun n0 => ?_)
    obtain ⟨w0, hw0⟩ : ∃ w0, w0 = (w.drewN n1).drewN n0 := ⟨_, rfl⟩
    rw [← hw0]
    have hw0s : Hid (w0.heap.size = w.heap.size) := by refine Lib.hid ?_; rw [hw0]; rfl
    have hk0 : Kept NoBlock w w0 := by rw [hw0]; exact ((Kept.refl _ _).drewN n1).drewN n0
    have hR0 := hR.keptNo hk0
    have hgl0 : h < w0.heap.size := hR0.lt
    have d5 : w0.cell? ⟨h, 5, none⟩ = some (.slice (some ad) M cap) := by rw [hw0]; exact c5
    have hL0 : Holds w0 (some ad) M (s.L.map bv) := hLL.kept hk0 (fun _ _ h => h)
    clear hw0 c0 c1 c2 c3 c4 c5 c5'
    repeat (refine tree_flt rfl rfl ?_; apply Exists.intro; refine ⟨fun w' hw' => ?_, ?_⟩; (go_simp; rfl); simp only [Act.put, List.setIfInBounds_toArray, List.set_cons_succ, List.set_cons_zero])
    refine tree_two rfl rfl ?_ ?_
    · go_wp2
      have hka : Kept NoBlock w0 (w0.alloc (.cells #[] 5)) := Kept.allocd _ _
      refine Halt.mk ⟨.inr (by go_simp), ?_⟩
      refine tree_seg rfl ?_
      go_wp2_with (go_at_call 21; refine (ffirst h q s _ (hR0.keptNo hka)).mono ?_; rintro e w5 ⟨rfl, n5, rfl⟩)
      refine Halt.mk ⟨.inr (by go_simp), ?_⟩
      repeat (refine tree_flt rfl rfl ?_; apply Exists.intro; refine ⟨fun w' hw' => ?_, ?_⟩; (go_simp; rfl); simp only [Act.put, List.setIfInBounds_toArray, List.set_cons_succ, List.set_cons_zero])
      have hmid := holds_mid hL0 h3 (i := j) (k := M - j) (by omega)
      rw [List.take_of_length_le (by have := hL0.1; rw [List.length_map] at this; rw [List.length_drop]; omega)] at hmid
      obtain ⟨apk, hapk⟩ : ∃ x, (if cap = j then some ad else some (ad.add j)) = x := ⟨_, rfl⟩
      rw [hapk] at hmid
      try simp only [hapk]
      have hmade : ((w0.alloc (.cells #[] 5)).drewN n5).ownsRow w0.heap.size 5 1 (.slice (some ⟨w0.heap.size, 0, none⟩) 0 0) 0 [] := fresh_nil w0
      have hkm : Kept NoBlock w ((w0.alloc (.cells #[] 5)).drewN n5) := (hk0.trans hka).drewN n5
      have hsrc : Holds ((w0.alloc (.cells #[] 5)).drewN n5) apk (M - j) ((s.L.drop j).map bv) := hmid.kept ((Kept.refl NoBlock w0).alloc _ |>.drewN n5) (fun _ _ h => h)
      have hbase : w0.heap.size ≤ ((w0.alloc (.cells #[] 5)).drewN n5).heap.size := by simp
      refine tree_seg rfl ?_
      go_wp2_with (at_builtin; refine wpList_append_holds rfl _ _ 22 rfl w0.heap.size 5 i0 (.int .u8 0) 1 Try.underlying22 hi hz0 hz1 hz2 rfl _ 0 [] rfl hmade apk (M - j) (cap - j) _ rfl hsrc (fun h => by rw [← hapk] at h; split at h <;> cases h) (bv_one _) (by unfold maxLen; omega) (by omega) hbase ?_; intro v' w7 hrow hgr; have hk7 : Kept NoBlock w w7 := (hkm.grown hgr (fun k e hk => absurd (hmade.lt k e).1 (by have := Hid.out hw0s; omega))); clear hgr; refine Hid.out ?_)
      refine Lib.hid ?_
      rw [Nat.zero_add, List.nil_append] at hrow
      obtain ⟨ap7, cap7, rfl, hz7, hc7⟩ := ownsRow_form2 hrow
      have hA7 := ownsRow_holds hrow
      have hAl := ownsRow_lt hrow
      clear hrow hmade hsrc hkm hbase
      go_wp2
      refine Halt.mk ?_
      refine tree_fin ?_
      simp only [pick, List.filterMap_cons, List.filterMap_nil, List.getElem?_cons_succ, List.getElem?_cons_zero]
      repeat (quiet_step (fail))
      refine wpQuiet_nil ?_
      rintro _ ⟨n9, rfl⟩
      go_wp2
      go_ret2
      exact ⟨ap7, cap7, rfl, hA7, fun ad e => by have h1 : w0.heap.size ≤ ad.block := (hAl ad e).2; rw [Hid.out hw0s] at h1; exact h1, hz7, hc7, hk7.drewN _⟩
    · go_wp2_with (go_at_call 21; refine (ffirst h q s _ hR0).mono ?_; rintro e w5 ⟨rfl, n5, rfl⟩)
      refine Halt.mk ⟨.inr (by go_simp), ?_⟩
      repeat (refine tree_flt rfl rfl ?_; apply Exists.intro; refine ⟨fun w' hw' => ?_, ?_⟩; (go_simp; rfl); simp only [Act.put, List.setIfInBounds_toArray, List.set_cons_succ, List.set_cons_zero])
      have hmid := holds_mid hL0 h3 (i := j) (k := M - j) (by omega)
      rw [List.take_of_length_le (by have := hL0.1; rw [List.length_map] at this; rw [List.length_drop]; omega)] at hmid
      obtain ⟨apk, hapk⟩ : ∃ x, (if cap = j then some ad else some (ad.add j)) = x := ⟨_, rfl⟩
      rw [hapk] at hmid
      try simp only [hapk]
      refine tree_seg rfl ?_
      go_wp2
      refine Halt.mk ⟨.inr ((((Kept.refl NoBlock w0).drewN n5).alloc _).cell d5 (fun h => h)), ?_⟩
      have hmade : ((w0.drewN n5).alloc (.cells #[] 5)).ownsRow w0.heap.size 5 1 (.slice (some ⟨w0.heap.size, 0, none⟩) 0 0) 0 [] := fresh_nil (w0.drewN n5)
      have hkm : Kept NoBlock w ((w0.drewN n5).alloc (.cells #[] 5)) := (hk0.drewN n5).alloc _
      have hsrc : Holds ((w0.drewN n5).alloc (.cells #[] 5)) apk (M - j) ((s.L.drop j).map bv) := hmid.kept (((Kept.refl NoBlock w0).drewN n5).alloc _) (fun _ _ h => h)
      have hbase : w0.heap.size ≤ ((w0.drewN n5).alloc (.cells #[] 5)).heap.size := by simp
      refine tree_seg rfl ?_
      go_wp2_with (at_builtin; refine wpList_append_holds rfl _ _ 22 rfl w0.heap.size 5 i0 (.int .u8 0) 1 Try.underlying22 hi hz0 hz1 hz2 rfl _ 0 [] rfl hmade apk (M - j) (cap - j) _ rfl hsrc (fun h => by rw [← hapk] at h; split at h <;> cases h) (bv_one _) (by unfold maxLen; omega) (by omega) hbase ?_; intro v' w7 hrow hgr; have hk7 : Kept NoBlock w w7 := (hkm.grown hgr (fun k e hk => absurd (hmade.lt k e).1 (by have := Hid.out hw0s; omega))); clear hgr; refine Hid.out ?_)
      refine Lib.hid ?_
      rw [Nat.zero_add, List.nil_append] at hrow
      obtain ⟨ap7, cap7, rfl, hz7, hc7⟩ := ownsRow_form2 hrow
      have hA7 := ownsRow_holds hrow
      have hAl := ownsRow_lt hrow
      clear hrow hmade hsrc hkm hbase
      go_wp2
      refine Halt.mk ?_
      refine tree_fin ?_
      simp only [pick, List.filterMap_cons, List.filterMap_nil, List.getElem?_cons_succ, List.getElem?_cons_zero]
      repeat (quiet_step (fail))
      refine wpQuiet_nil ?_
      rintro _ ⟨n9, rfl⟩
      go_wp2
      go_ret2
      exact ⟨ap7, cap7, rfl, hA7, fun ad e => by have h1 : w0.heap.size ≤ ad.block := (hAl ad e).2; rw [Hid.out hw0s] at h1; exact h1, hz7, hc7, hk7.drewN _⟩
end Go.Proofs.Ytlaahdjdlekopaa
