/- The document's requests: the first one; all of them. -/
import Derived.Test.YtdfkdbdhaaiadaaDoorRs8
namespace Go.Proofs.YtdfkdbdhaaiadaaDoor
open Go.RowKit
attribute [local go_sem] fold_part fold_some fold_some' partAt_zero

theorem rline (v : Value) (b : Bs) (w : World) (h : BytesV w v b) (hb : b.length ≤ 1000000) : Calls Tryd.prog 27 #[v] w (FEnd (line b) w) := by
  by_cases hf : fnd 10 b < 0
  · exact rline_none v b w h hb hf
  · exact rline_some v b w h hb (by omega)

/-- The same behind a block for the answer. -/
theorem FEnd.behind {M : Got (List Bs × Nat)} {w w1 : World} {v : Value} {a b c d : Value} (h : FEnd M (w.alloc found0) (.returned v) w1) (hv : v = .agg #[a, b, c, d]) :
    FEnd M w (.returned v) ((((w1.setCell ⟨w.heap.size, 0, none⟩ a).setCell ⟨w.heap.size, 1, none⟩ b).setCell ⟨w.heap.size, 2, none⟩ c).setCell ⟨w.heap.size, 3, none⟩ d) := by
  obtain ⟨hk, hend⟩ := h
  refine ⟨(((Kept.refl NoBlock w).alloc _).trans hk).own4 (Nat.le_refl _) _ _ _ _, ?_⟩
  rcases M with _ | f | ⟨l, m⟩
  · exact hend
  · exact hend
  · obtain ⟨u, e, ho⟩ := hend
    rw [World.size_alloc] at ho
    exact ⟨u, e, ownsRow_lower (OwnS.own4 ho (Nat.lt_succ_self _) _ _ _ _) (Nat.le_succ _)⟩

theorem FEnd.agg {M : Got (List Bs × Nat)} {w w1 : World} {e : Ending} (h : FEnd M w e w1) : ∃ st n ap k c f, e = .returned (.agg #[.int .i64 st, .int .i64 n, .slice ap k c, .string f]) := by
  obtain ⟨hk, hend⟩ := h
  rcases M with _ | f | ⟨l, m⟩
  · exact ⟨_, _, _, _, _, _, hend⟩
  · exact ⟨_, _, _, _, _, _, hend⟩
  · obtain ⟨u, e, ho⟩ := hend
    obtain ⟨ap, cap, rfl, _⟩ := ownsRow_form ho
    exact ⟨_, _, _, _, _, _, e⟩

set_option maxRecDepth 100000 in
set_option maxHeartbeats 3200000 in
theorem rfirst (v : Value) (b : Bs) (w : World) (h : BytesV w v b) (hb : b.length ≤ 1000000) : Calls Tryd.prog 22 #[v] w (FEnd (first parseV b) w) := by
  obtain ⟨MM, hMM⟩ : ∃ MM, MM = first parseV b := ⟨_, rfl⟩
  rw [← hMM]
  cases b with
  | nil =>
    obtain ⟨ap, cap, rfl, _, _⟩ := h.parts
    obtain rfl : MM = .wait := hMM
    clear h
    simp only [List.length_nil] at *
    go_enter Tryd.func22, Tryd.ntmps22
    go_wp2
    refine bodyPost_ret (v := foundV 0 0 (.slice none 0 0) []) ((results_cell rfl _ _ _).trans ?_) rfl ⟨(Kept.refl NoBlock w).alloc _, rfl⟩
    go_simp
  | cons c r =>
    have h1 := h.keptNo ((Kept.refl NoBlock w).alloc found0)
    obtain ⟨ad, cap, rfl, hcap⟩ := h.first
    have hcell : (w.alloc found0).cell? ad = some (.int .u8 c.toNat) := h1.at0
    simp only [found0] at hcell
    have hM : MM = if c = 42 then bulks parseV (c :: r) else line (c :: r) := hMM
    by_cases hc : c = 42
    · subst hc
      rw [if_pos rfl] at hM
      subst hM
      have hcall := rbulks _ (42 :: r) (w.alloc found0) h1 hb 42 rfl (by decide)
      have HC := Lib.hid hcall
      clear hMM hcall h1 h
      generalize bulks parseV (42 :: r) = MM at *
      generalize r.length = n at *
      go_enter Tryd.func22, Tryd.ntmps22
      go_wp2_with fail
      refine HC.out.mono ?_
      intro e w1 hF
      have hg1 := hF.1.heap (heap_alloc_new w found0) (fun h => h)
      obtain ⟨d0, d1, d2, d3, f0, f1, f2, f3⟩ := blk4 hg1
      obtain ⟨st, m, apl, kl, cl, f, rfl⟩ := hF.agg
      have HF := Lib.hid (hF.behind rfl)
      clear hF hg1
      go_wp2
      refine bodyPost_ret (v := .agg #[.int .i64 st, .int .i64 m, .slice apl kl cl, .string f]) ((results_cell rfl _ _ _).trans ?_) rfl HF.out
      go_simp
    · rw [if_neg hc] at hM
      subst hM
      have hcall := rline _ (c :: r) (w.alloc found0) h1 hb
      have HC := Lib.hid hcall
      have hc' : ((c.toNat : Int) == 42) = false := by
        have : ¬ (c.toNat : Int) = 42 := fun e => hc (UInt8.toNat_inj.1 (by show c.toNat = 42; omega))
        simpa using this
      clear hMM hcall h1 h hc
      generalize line (c :: r) = MM at *
      generalize r.length = n at *
      go_enter Tryd.func22, Tryd.ntmps22
      go_wp2_with fail
      refine HC.out.mono ?_
      intro e w1 hF
      have hg1 := hF.1.heap (heap_alloc_new w found0) (fun h => h)
      obtain ⟨d0, d1, d2, d3, f0, f1, f2, f3⟩ := blk4 hg1
      obtain ⟨st, m, apl, kl, cl, f, rfl⟩ := hF.agg
      have HF := Lib.hid (hF.behind rfl)
      clear hF hg1
      go_wp2
      refine bodyPost_ret (v := .agg #[.int .i64 st, .int .i64 m, .slice apl kl cl, .string f]) ((results_cell rfl _ _ _).trans ?_) rfl HF.out
      go_simp
end Go.Proofs.YtdfkdbdhaaiadaaDoor
