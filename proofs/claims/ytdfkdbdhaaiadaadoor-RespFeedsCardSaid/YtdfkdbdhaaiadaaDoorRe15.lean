/- A reader of requests: what is fed to it. -/
import Derived.Test.YtdfkdbdhaaiadaaDoorRe14
namespace Go.Proofs.YtdfkdbdhaaiadaaDoor
open Go.RowKit
attribute [local go_sem] fold_part fold_some fold_some' partAt_zero

/-- The reader at block g: what it keeps, and whether it has told a fault. -/
def RdrAt (w : World) (g : Nat) (d : Bool) (l : Bs) : Prop :=
  ∃ v, w.heap[g]? = some (.cells #[.bool true, .bool d, v] 46 (0, 0)) ∧ BytesV w v l ∧ vblk v ≠ some g ∧ ∀ k, vblk v = some k → ∃ cs, w.heap[k]? = some (.cells cs 5 (0, 0))

theorem RdrAt.lt {w : World} {g : Nat} {d : Bool} {l : Bs} (h : RdrAt w g d l) : g < w.heap.size := by
  obtain ⟨v, hg, _⟩ := h; exact lt_of_heap hg

theorem pnew (w : World) : Calls Tryd.prog 15 #[] w fun e w' => e = .returned (.pointer (some ⟨w.heap.size, 0, none⟩)) ∧ RdrAt w' w.heap.size false [] ∧ w' = w.alloc (.cells #[.bool true, .bool false, .slice none 0 0] 46) := by
  go_enter Tryd.func15, Tryd.ntmps15
  go_wp2
  go_ret
  exact ⟨rfl, ⟨_, heap_alloc_new w _, BytesV.nil _, by simp [vblk], fun k h => by cases h⟩, rfl⟩

theorem pleft_nil (w : World) : Calls Tryd.prog 18 #[.pointer none] w fun e w' => e = .returned (.int .i64 0) ∧ w = w' := by
  go_enter Tryd.func18, Tryd.ntmps18
  go_wp2
  go_ret
  exact ⟨rfl, rfl⟩

theorem pleft (g : Nat) (m d : Bool) (l : Bs) (v : Value) (w : World) (hg : w.heap[g]? = some (.cells #[.bool m, .bool d, v] 46 (0, 0))) (hv : BytesV w v l) :
    Calls Tryd.prog 18 #[.pointer (some ⟨g, 0, none⟩)] w fun e w' => e = .returned (.int .i64 l.length) ∧ w = w' := by
  obtain ⟨ap, cap, rfl, _, _⟩ := hv.parts
  obtain ⟨c0, c1, c2, f0, f1, f2⟩ := blk3 hg
  clear hv hg
  go_enter Tryd.func18, Tryd.ntmps18
  go_wp2
  go_ret
  exact ⟨rfl, rfl⟩

theorem pfeed_nil (v : Value) (w : World) : Calls Tryd.prog 16 #[.pointer none, v] w fun e w' => e = .returned (.tuple #[.slice none 0 0, .string ⟨#[]⟩, .int .i64 4]) ∧ w = w' := by
  go_enter Tryd.func16, Tryd.ntmps16
  go_wp2
  go_ret3
  exact ⟨rfl, rfl⟩

theorem pfeed_unmade (g : Nat) (v x y : Value) (w : World) (hg : w.heap[g]? = some (.cells #[.bool false, x, y] 46 (0, 0))) : Calls Tryd.prog 16 #[.pointer (some ⟨g, 0, none⟩), v] w fun e w' => e = .returned (.tuple #[.slice none 0 0, .string ⟨#[]⟩, .int .i64 4]) ∧ w = w' := by
  obtain ⟨c0, c1, c2, f0, f1, f2⟩ := blk3 hg
  clear hg
  go_enter Tryd.func16, Tryd.ntmps16
  go_wp2
  go_ret3
  exact ⟨rfl, rfl⟩

theorem pfeed_done (g : Nat) (v y : Value) (w : World) (hg : w.heap[g]? = some (.cells #[.bool true, .bool true, y] 46 (0, 0))) : Calls Tryd.prog 16 #[.pointer (some ⟨g, 0, none⟩), v] w fun e w' => e = .returned (.tuple #[.slice none 0 0, .string ⟨#[]⟩, .int .i64 20]) ∧ w = w' := by
  obtain ⟨c0, c1, c2, f0, f1, f2⟩ := blk3 hg
  clear hg
  go_enter Tryd.func16, Tryd.ntmps16
  go_wp2
  go_ret3
  exact ⟨rfl, rfl⟩
/-- What 'Feed' leaves of a reader that keeps k, behind the bytes y. -/
def FeedEnd (g : Nat) (M : List (List Bs) × Nat × Bs) (t : Bs) (w : World) (e : Ending) (w' : World) : Prop :=
  Kept (fun k => k = g) w w' ∧ ∃ va out, e = .returned (.tuple #[va, strV M.2.2, .int .i64 0]) ∧ OutsAt w' w.heap.size va out ∧ out.map (·.2) = M.1 ∧
    ((M.2.2 = [] ∧ RdrAt w' g false (t.drop M.2.1)) ∨ (M.2.2 ≠ [] ∧ RdrAt w' g true []))

set_option maxRecDepth 100000 in
set_option maxHeartbeats 3200000 in
theorem pfeed (g : Nat) (v : Value) (k y : Bs) (w : World) (hV : Vs w) (h : RdrAt w g false k) (hy : BytesV w v y) (hlen : k.length + y.length ≤ 100000000) :
    Calls Tryd.prog 16 #[.pointer (some ⟨g, 0, none⟩), v] w (FeedEnd g (split parseV (k ++ y)) (k ++ y) w) := by
  obtain ⟨M, hM⟩ : ∃ M, split parseV (k ++ y) = M := ⟨_, rfl⟩
  have hle := split_le parseV (k ++ y)
  rw [hM] at hle ⊢
  have hlt := h.lt
  obtain ⟨x, hg, hx, hxb, _⟩ := h
  obtain ⟨ap, cap, rfl, _, _⟩ := hy.parts
  obtain ⟨c0, c1, c2, f0, f1, f2⟩ := blk3 hg
  obtain ⟨apx, capx, rfl, _, _⟩ := hx.parts
  have hmade := ownB_made w
  have hk0 : Kept NoBlock w (w.alloc (.cells #[] 5)) := (Kept.refl _ w).alloc _
  have HX := Lib.hid (hx.keptNo hk0)
  have HY := Lib.hid hy
  have HK0 := Lib.hid hk0
  have HMM := Lib.hid hM
  have HV := Lib.hid hV
  have HG := Lib.hid hg
  have HL := Lib.hid hle
  obtain ⟨M1, M2, M3⟩ := M
  have hgo : ∀ (x : Value) , True := fun _ => trivial
  clear hx hy hM hV hle hg hk0 hgo
  go_enter Tryd.func16, Tryd.ntmps16
  go_wp2_with (at_builtin; refine wpList_appB rfl _ _ (by rfl) w.heap.size _ [] (by rfl) hmade _ k (by rfl) HX.out (by simp; omega) (by simp) ?_; intro v1 w1 ha1; refine Hid.out ?_)
  have hk1 : Kept NoBlock w w1 := ha1.kept hmade (Nat.le_refl _) HK0.out
  have hs1 := hk1.size
  have hy1 := HY.out.keptNo hk1
  have hown1 := ha1.own
  rw [List.nil_append] at hown1
  obtain ⟨ap1, cap1, rfl, _⟩ := ownsRow_form hown1
  have HK1 := Lib.hid hk1
  have HO1 := Lib.hid hown1
  have HY1 := Lib.hid hy1
  clear ha1 hk1 hown1 hy1 hmade
  refine Lib.hid ?_
  go_wp2_with (at_builtin; refine wpList_appB rfl _ _ (by rfl) w.heap.size _ k (by rfl) HO1.out _ y (by rfl) HY1.out hlen hs1 ?_; intro v2 w2 ha2; refine Hid.out ?_)
  have hk2 : Kept NoBlock w w2 := ha2.kept HO1.out (Nat.le_refl _) HK1.out
  have hown2 := ha2.own
  have hs2 := hk2.size
  obtain ⟨ap2, cap2, rfl, _⟩ := ownsRow_form hown2
  have hb2 : BytesV w2 (.slice ap2 (k ++ y).length cap2) (k ++ y) := hown2.bytes
  have hlt2 := ownsRow_lt hown2
  have HK2 := Lib.hid hk2
  have HB2 := Lib.hid hb2
  have hspl := psplit _ _ (k ++ y) w2 (HV.out.below hk2.toB) hb2 rfl (fun b e => by
    rw [vblk_slice] at e
    cases ap2 with
    | none => cases e
    | some a => cases e; exact (hlt2 a rfl).1) (by rw [List.length_append]; exact hlen)
  rw [HMM.out] at hspl
  have HSP := Lib.hid hspl
  have hty : ∀ (lo m c : Nat) (k : Nat), vblk (.slice (partAt ap2 lo cap2) m c) = some k → ∃ cs, w2.heap[k]? = some (.cells cs 5 (0, 0)) := by
    intro lo m c k e
    rw [partAt_blk (n' := m) (c' := c), vblk_slice] at e
    rcases hown2.2 with ⟨h1, _⟩ | ⟨g', cap', cur, h1, _, h3, _⟩
    · have h4 := (Value.slice.inj h1).1
      rw [h4] at e; cases e
    · have h4 := (Value.slice.inj h1).1
      rw [h4] at e; cases e; exact ⟨_, h3⟩
  have HTY := Lib.hid hty
  have hng : ¬ vblk (.slice ap2 (k ++ y).length cap2) = some g := by
    rw [vblk_slice]
    cases ap2 with
    | none => intro e; cases e
    | some a => intro e; have := (hlt2 a rfl).2; have e2 : a.block = g := by simpa using e
                omega
  clear hspl hb2 hlt2 ha2 hown2 hk2 hty
  generalize hn : (k ++ y).length = n at *
  refine Lib.hid ?_
  go_wp2_with (go_at_call 11; refine HSP.out.mono ?_; rintro e w3 ⟨hk3, va, out, rfl, ho3, hm3⟩; refine Hid.out ?_)
  have hkw : Kept NoBlock w w3 := HK2.out.trans hk3
  have hg3 := hkw.heap HG.out (fun h => h)
  have hb3 := HB2.out.keptNo hk3
  have HO3 := Lib.hid (OutsAt.keptS (w' := w3) ho3 (Kept.refl NoBlock w3) (fun _ _ h => h))
  have hs3 := hk3.size
  have HKW := Lib.hid hkw
  have HG3 := Lib.hid hg3
  have HB3 := Lib.hid hb3
  have hM2 : M2 ≤ n := HL.out
  have hty3 : ∀ (lo m c : Nat) (k : Nat), vblk (.slice (partAt ap2 lo cap2) m c) = some k → ∃ cs, w3.heap[k]? = some (.cells cs 5 (0, 0)) := fun lo m c k e => by
    obtain ⟨cs, h⟩ := HTY.out lo m c k e; exact ⟨cs, hk3.heap h (fun h => h)⟩
  have HTY3 := Lib.hid hty3
  have hn2 : n ≤ cap2 ∧ (ap2 = none → cap2 = 0) := (RowV.holds hb3).2.2
  clear c0 c1 c2 f0 f1 f2
  obtain ⟨c0, c1, c2, f0, f1, f2⟩ := blk3 hg3
  have hn3 := hn2.1
  clear hkw hg3 hb3 hk3 ho3 hty3 HTY HB2 HSP HX HY HK0 HV HG HK1 HO1 HY1 hn2
  refine Lib.hid ?_
  cases M3 with
  | nil =>
    simp only [strV] at *
    go_wp2
    go_ret3
    have e1 := heap_setCell_same HG3.out 2 (.slice (partAt ap2 M2 cap2) (n - M2) (cap2 - M2))
    have hk : Kept (fun k => k = g) w3 (w3.setCell ⟨g, 2, none⟩ (.slice (partAt ap2 M2 cap2) (n - M2) (cap2 - M2))) := Kept.setCell (S := fun k => k = g) (p := ⟨g, 2, none⟩) (Kept.refl _ _) (fun _ => rfl) _
    refine ⟨HKW.out.anyS.trans hk, va, out, rfl, ?_, hm3, .inl ⟨rfl, _, e1, BytesV.kept (HB3.out.tail M2 hM2) hk (fun b e1 e2 => hng ?_), fun e => hng ?_, fun b e => ?_⟩⟩
    · have := HO3.out.keptS hk (fun k hk e => by omega)
      exact ⟨ownsRow_lower this.1 hs2, fun p hp => ownsRow_lower (this.2 p hp) hs2⟩
    · rw [← e2, ← e1]; exact partAt_blk.symm
    · rw [← e]; exact partAt_blk.symm
    · obtain ⟨cs, h⟩ := HTY3.out M2 _ _ b e
      exact ⟨cs, hk.heap h (fun e2 => hng (by rw [← e2, ← e]; exact partAt_blk.symm))⟩
  | cons c f =>
    have hne : ¬ ((⟨(c :: f).toArray⟩ : ByteArray) = ⟨#[]⟩) := fun e => by
      have := congrArg (fun b : ByteArray => b.data.size) e
      simp at this
    simp only [strV] at *
    go_wp2
    go_ret3
    have e1 := heap_setCell_same (heap_setCell_same (heap_setCell_same HG3.out 2 (.slice (partAt ap2 M2 cap2) (n - M2) (cap2 - M2))) 1 (.bool true)) 2 (.slice none 0 0)
    have hk : Kept (fun k => k = g) w3 (((w3.setCell ⟨g, 2, none⟩ (.slice (partAt ap2 M2 cap2) (n - M2) (cap2 - M2))).setCell ⟨g, 1, none⟩ (.bool true)).setCell ⟨g, 2, none⟩ (.slice none 0 0)) :=
      Kept.setCell (S := fun k => k = g) (p := ⟨g, 2, none⟩) (Kept.setCell (S := fun k => k = g) (p := ⟨g, 1, none⟩) (Kept.setCell (S := fun k => k = g) (p := ⟨g, 2, none⟩) (Kept.refl _ _) (fun _ => rfl) _) (fun _ => rfl) _) (fun _ => rfl) _
    refine ⟨HKW.out.anyS.trans hk, va, out, rfl, ?_, hm3, .inr ⟨List.cons_ne_nil _ _, _, e1, BytesV.nil _, by simp [vblk], fun k h => by cases h⟩⟩
    have := HO3.out.keptS hk (fun k hk e => by omega)
    exact ⟨ownsRow_lower this.1 hs2, fun p hp => ownsRow_lower (this.2 p hp) hs2⟩
end Go.Proofs.YtdfkdbdhaaiadaaDoor
