/- The document's reader: what is fed to it. -/
import Derived.Test.YtdfkdbdhaaiadaaDoorRs11
namespace Go.Proofs.YtdfkdbdhaaiadaaDoor
open Go.RowKit
attribute [local go_sem] fold_part fold_some fold_some' partAt_zero

/-- The document's reader at block g: what it keeps, and whether it has told a fault. -/
def RdrS (w : World) (g : Nat) (d : Bool) (l : Bs) : Prop :=
  ∃ v, w.heap[g]? = some (.cells #[v, .bool d] 42 (0, 0)) ∧ BytesV w v l ∧ vblk v ≠ some g ∧ ∀ k, vblk v = some k → ∃ cs, w.heap[k]? = some (.cells cs 5 (0, 0))

theorem rfeed_done (g : Nat) (l : Bs) (v : Value) (w : World) (h : RdrS w g true l) : Calls Tryd.prog 17 #[.pointer (some ⟨g, 0, none⟩), v] w fun e w' => e = .returned (.tuple #[.slice none 0 0, .string ⟨#[]⟩, .int .i64 20]) ∧ w = w' := by
  obtain ⟨x, hg, _⟩ := h
  obtain ⟨c0, c1, f0, f1⟩ := blk2 hg
  clear hg
  go_enter Tryd.func17, Tryd.ntmps17
  go_wp2
  go_ret3
  exact ⟨rfl, rfl⟩

/-- What the document's 'Feed' leaves. -/
def FeedEndS (g : Nat) (M : List (List Bs) × Nat × Bs) (t : Bs) (w : World) (e : Ending) (w' : World) : Prop :=
  Kept (fun k => k = g) w w' ∧ ∃ va out, e = .returned (.tuple #[va, strV M.2.2, .int .i64 0]) ∧ OutsAt w' w.heap.size va out ∧ out.map (·.2) = M.1 ∧
    ((M.2.2 = [] ∧ RdrS w' g false (t.drop M.2.1)) ∨ (M.2.2 ≠ [] ∧ RdrS w' g true []))

set_option maxRecDepth 100000 in
set_option maxHeartbeats 3200000 in
theorem rfeed (g : Nat) (v : Value) (k y : Bs) (w : World) (h : RdrS w g false k) (hy : BytesV w v y) (hlen : k.length + y.length ≤ 1000000) :
    Calls Tryd.prog 17 #[.pointer (some ⟨g, 0, none⟩), v] w (FeedEndS g (split parseV (k ++ y)) (k ++ y) w) := by
  obtain ⟨M, hM⟩ : ∃ M, split parseV (k ++ y) = M := ⟨_, rfl⟩
  have hle := split_le parseV (k ++ y)
  rw [hM] at hle ⊢
  obtain ⟨x, hg, hx, hxb, _⟩ := h
  have hlt := lt_of_heap hg
  obtain ⟨ap, cap, rfl, _, _⟩ := hy.parts
  obtain ⟨c0, c1, f0, f1⟩ := blk2 hg
  obtain ⟨apx, capx, rfl, _, _⟩ := hx.parts
  have hmade := ownB_made w
  have hk0 : Kept NoBlock w (w.alloc (.cells #[] 5)) := (Kept.refl _ w).alloc _
  have HX := Lib.hid (hx.keptNo hk0)
  have HY := Lib.hid hy
  have HK0 := Lib.hid hk0
  have HMM := Lib.hid hM
  have HG := Lib.hid hg
  have HL := Lib.hid hle
  obtain ⟨M1, M2, M3⟩ := M
  clear hx hy hM hle hg hk0 hxb
  go_enter Tryd.func17, Tryd.ntmps17
  go_wp2_with (at_builtin; refine wpList_appB rfl _ _ (by rfl) w.heap.size _ [] (by rfl) hmade _ k (by rfl) HX.out (by simp; omega) (by simp) ?_; intro v1 w1 ha1; refine Hid.out ?_)
  have hk1 : Kept NoBlock w w1 := ha1.kept hmade (Nat.le_refl _) HK0.out
  have hs1 := hk1.size
  have hy1 := HY.out.keptNo hk1
  have hown1 := ha1.own
  rw [List.nil_append] at hown1
  obtain ⟨ap1, cap1, rfl, _⟩ := ownsRow_form hown1
  have HK1 := Lib.hid hk1
  have HO1 := Lib.hid hown1
  have HY1 := Lib.hid hy1
  clear ha1 hk1 hown1 hy1 hmade
  refine Lib.hid ?_
  go_wp2_with (at_builtin; refine wpList_appB rfl _ _ (by rfl) w.heap.size _ k (by rfl) HO1.out _ y (by rfl) HY1.out (by omega) hs1 ?_; intro v2 w2 ha2; refine Hid.out ?_)
  have hk2 : Kept NoBlock w w2 := ha2.kept HO1.out (Nat.le_refl _) HK1.out
  have hown2 := ha2.own
  have hs2 := hk2.size
  obtain ⟨ap2, cap2, rfl, _⟩ := ownsRow_form hown2
  have hb2 : BytesV w2 (.slice ap2 (k ++ y).length cap2) (k ++ y) := hown2.bytes
  have hlt2 := ownsRow_lt hown2
  have hg2 := hk2.heap HG.out (fun h => h)
  have hng : ¬ vblk (.slice ap2 (k ++ y).length cap2) = some g := by
    rw [vblk_slice]
    cases ap2 with
    | none => intro e; cases e
    | some a => intro e; have := (hlt2 a rfl).2; have e2 : a.block = g := by simpa using e
                omega
  have hW : Kept (fun k => k = g) w2 (w2.setCell ⟨g, 0, none⟩ (.slice ap2 (k ++ y).length cap2)) := Kept.setCell (S := fun k => k = g) (p := ⟨g, 0, none⟩) (Kept.refl _ _) (fun _ => rfl) _
  have hgW : (w2.setCell ⟨g, 0, none⟩ (.slice ap2 (k ++ y).length cap2)).heap[g]? = some (.cells #[.slice ap2 (k ++ y).length cap2, .bool false] 42 (0, 0)) := heap_setCell_same hg2 0 _
  have hbW := hb2.kept hW (fun b e1 e2 => hng (by rw [← e2, ← e1]))
  have hspl := rsplit _ (k ++ y) _ hbW (by rw [List.length_append]; exact hlen)
  rw [HMM.out] at hspl
  have HSP := Lib.hid hspl
  have hty : ∀ (lo m c : Nat) (q : Nat), vblk (.slice (partAt ap2 lo cap2) m c) = some q → ∃ cs, (w2.setCell ⟨g, 0, none⟩ (.slice ap2 (k ++ y).length cap2)).heap[q]? = some (.cells cs 5 (0, 0)) := by
    intro lo m c q e
    have hqg : q ≠ g := fun e2 => hng (by rw [← e2, ← e]; exact partAt_blk.symm)
    rw [partAt_blk (n' := m) (c' := c), vblk_slice] at e
    rw [heap_setCell_ne _ _ hqg]
    rcases hown2.2 with ⟨h1, _⟩ | ⟨g', cap', cur, h1, _, h3, _⟩
    · have h4 := (Value.slice.inj h1).1
      rw [h4] at e; cases e
    · have h4 := (Value.slice.inj h1).1
      rw [h4] at e; cases e; exact ⟨_, h3⟩
  have HTY := Lib.hid hty
  have hkW : Kept (fun k => k = g) w (w2.setCell ⟨g, 0, none⟩ (.slice ap2 (k ++ y).length cap2)) := hk2.anyS.trans hW
  have HKW := Lib.hid hkW
  have HBW := Lib.hid hbW
  have HGW := Lib.hid hgW
  obtain ⟨d0, d1, e0, e1⟩ := blk2 hg2
  clear hspl hb2 hlt2 ha2 hown2 hk2 hty hW hgW hbW hkW hg2 c0 c1 f0 f1
  generalize hn : (k ++ y).length = n at *
  refine Lib.hid ?_
  go_wp2_with fail
  refine HSP.out.mono ?_
  rintro e w3 ⟨hk3, va, out, rfl, ho3, hm3⟩
  have hg3 := hk3.heap HGW.out (fun h => h)
  have hb3 := HBW.out.keptNo hk3
  have hsW : w.heap.size ≤ w2.heap.size := hs2
  have hs3 := hk3.size
  have ho3' : OutsAt w3 w.heap.size va out := by
    refine OutsAt.lower ho3 ?_
    simpa [World.setCell] using hsW
  have HO3 := Lib.hid ho3'
  have HKW3 := Lib.hid (HKW.out.trans hk3.anyS)
  have HG3 := Lib.hid hg3
  have HB3 := Lib.hid hb3
  have hM2 : M2 ≤ n := HL.out
  have hty3 : ∀ (lo m c : Nat) (k : Nat), vblk (.slice (partAt ap2 lo cap2) m c) = some k → ∃ cs, w3.heap[k]? = some (.cells cs 5 (0, 0)) := fun lo m c k e => by
    obtain ⟨cs, h⟩ := HTY.out lo m c k e; exact ⟨cs, hk3.heap h (fun h => h)⟩
  have HTY3 := Lib.hid hty3
  have hn2 : n ≤ cap2 ∧ (ap2 = none → cap2 = 0) := (RowV.holds hb3).2.2
  obtain ⟨c0, c1, f0, f1⟩ := blk2 hg3
  have hn3 := hn2.1
  clear d0 d1 e0 e1 hg3 hb3 hk3 ho3 ho3' hty3 HTY HBW HSP HX HY HK0 HG HK1 HO1 HY1 hn2 HKW HGW
  cases M3 with
  | nil =>
    simp only [strV] at *
    go_wp2
    go_ret3
    have e1 := heap_setCell_same HG3.out 0 (.slice (partAt ap2 M2 cap2) (n - M2) (cap2 - M2))
    have hk : Kept (fun k => k = g) w3 (w3.setCell ⟨g, 0, none⟩ (.slice (partAt ap2 M2 cap2) (n - M2) (cap2 - M2))) := Kept.setCell (S := fun k => k = g) (p := ⟨g, 0, none⟩) (Kept.refl _ _) (fun _ => rfl) _
    refine ⟨HKW3.out.trans hk, va, out, rfl, HO3.out.keptS hk (fun k hk e => by omega), hm3, .inl ⟨rfl, _, e1, BytesV.kept (HB3.out.tail M2 hM2) hk (fun b e1 e2 => hng ?_), fun e => hng ?_, fun b e => ?_⟩⟩
    · rw [← e2, ← e1]; exact partAt_blk.symm
    · rw [← e]; exact partAt_blk.symm
    · obtain ⟨cs, h⟩ := HTY3.out M2 _ _ b e
      exact ⟨cs, hk.heap h (fun e2 => hng (by rw [← e2, ← e]; exact partAt_blk.symm))⟩
  | cons c f =>
    have hne : ¬ ((⟨(c :: f).toArray⟩ : ByteArray) = ⟨#[]⟩) := fun e => by
      have := congrArg (fun b : ByteArray => b.data.size) e
      simp at this
    simp only [strV] at *
    go_wp2
    go_ret3
    have e1 := heap_setCell_same (heap_setCell_same (heap_setCell_same HG3.out 0 (.slice (partAt ap2 M2 cap2) (n - M2) (cap2 - M2))) 1 (.bool true)) 0 (.slice none 0 0)
    have hk : Kept (fun k => k = g) w3 (((w3.setCell ⟨g, 0, none⟩ (.slice (partAt ap2 M2 cap2) (n - M2) (cap2 - M2))).setCell ⟨g, 1, none⟩ (.bool true)).setCell ⟨g, 0, none⟩ (.slice none 0 0)) :=
      Kept.setCell (S := fun k => k = g) (p := ⟨g, 0, none⟩) (Kept.setCell (S := fun k => k = g) (p := ⟨g, 1, none⟩) (Kept.setCell (S := fun k => k = g) (p := ⟨g, 0, none⟩) (Kept.refl _ _) (fun _ => rfl) _) (fun _ => rfl) _) (fun _ => rfl) _
    exact ⟨HKW3.out.trans hk, va, out, rfl, HO3.out.keptS hk (fun k hk e => by omega), hm3, .inr ⟨List.cons_ne_nil _ _, _, e1, BytesV.nil _, by simp [vblk], fun k h => by cases h⟩⟩
end Go.Proofs.YtdfkdbdhaaiadaaDoor
