/- 'ends': a value pushed, of both. -/
import Derived.Test.YtnleffjheimmbaaRn
namespace Go.Proofs.Ytnleffjheimmbaa
open Go.RowKit Go.Shelf
attribute [local go_sem] stillV_value stillV_skip

theorem below_d (w : World) (n : Nat) : Below w.heap.size w (w.drewN n) := ⟨rfl, rfl, rfl, Nat.le_refl _, fun _ _ => rfl⟩

set_option maxRecDepth 8000 in
set_option maxHeartbeats 1600000 in
theorem ends_1 (w0 w : World) (g b : Nat) (R : Option Nat) (v : Value) (B : Nat) (L : List ByteArray) (i k : Int) (s : ByteArray) (h : Rn w0 w g b R v B L L) (hl : L.length ≤ 1000) :
    Calls Try.prog 45 #[.pointer (some ⟨g, 0, none⟩), .pointer (some ⟨b, 0, none⟩), .agg #[.int .i64 1, .int .i64 i, .int .i64 k, .string s]] w
      fun e w' => e = .returned (.bool true) ∧ ∃ R' v', Rn w0 w' g b R' v' B (L ++ [s]) (L ++ [s]) := by
  have hwa := h.kept (Kept.allocd w (.cells #[.int .i64 1, .int .i64 i, .int .i64 k, .string s] 48))
  have hop := heap_alloc_new w (.cells #[.int .i64 1, .int .i64 i, .int .i64 k, .string s] 48)
  obtain ⟨ap, cap, rfl, hc, hcap, hn, hs⟩ := rw_len hwa.rw
  obtain ⟨i0, hi, hz0, hz1, hz2⟩ := info_parts wkInfo
  clear h hcap hn hs
  go_enter Try.func45, Try.ntmps45
  go_wp2_with fail
  generalize w.alloc (.cells #[.int .i64 1, .int .i64 i, .int .i64 k, .string s] 48) = wa at *
  generalize w.heap.size = p at *
  have hop3 : wa.cell? ⟨p, 3, none⟩ = some (.string s) := cellB hop rfl
  have hbx := hwa.rw.1
  have hblt := hbx.lt
  have hkc : ∀ m, ((wa.drewN m).alloc (.cells #[.string s] 9)).cell? ⟨b, 0, none⟩ = some (.slice ap L.length cap) := fun m =>
    Boxed.cell (t := 45) (((Below.alloc (below_d wa m) (Nat.le_refl _) (.cells #[.string s] 9)).block _ hblt).trans hbx)
  have hown : ∀ m, ((wa.drewN m).alloc (.cells #[.string s] 9)).ownsRow B 9 1 (.slice ap L.length cap) L.length (L.map .string) := fun m =>
    (hwa.rw.below (Below.alloc (below_d wa m) (Nat.le_refl _) (.cells #[.string s] 9))).2
  have hBs : B ≤ wa.heap.size := by have := hwa.bb; omega
  have key : ∀ m v' w2, w2.ownsRow B 9 1 v' (L.length + 1) (L.map .string ++ [.string s]) → ((wa.drewN m).alloc (.cells #[.string s] 9)).grownBy w2 (Value.ownBlock (.slice ap L.length cap)) → (v'.ownBlock = Value.ownBlock (.slice ap L.length cap) ∨ v'.ownBlock = some (wa.heap.size + 1)) →
      w2.cell? ⟨b, 0, none⟩ = some (.slice ap L.length cap) ∧ w2.frozen? ⟨b, 0, none⟩ = false ∧ ∀ n1, Rn w0 ((w2.drewN n1).setCell ⟨b, 0, none⟩ v') g b R v' B L (L ++ [s]) ∧ ((w2.drewN n1).setCell ⟨b, 0, none⟩ v').cell? ⟨p, 3, none⟩ = some (.string s) := by
    intro m v' w2 hr hg hat
    have hb1 : Boxed ((wa.drewN m).alloc (.cells #[.string s] 9)) b 45 _ := ((Below.alloc (below_d wa m) (Nat.le_refl _) (.cells #[.string s] 9)).block _ hblt).trans hbx
    have hb2 := hb1.kept hg (hb1.not_row (by decide) (hown m))
    refine ⟨hb2.cell, hb2.frozen, fun n1 => ?_⟩
    have hk : Kept (fun q => q = b ∨ Value.ownBlock (.slice ap L.length cap) = some q) wa ((w2.drewN n1).setCell ⟨b, 0, none⟩ v') :=
      Kept.setCell (p := ⟨b, 0, none⟩) (Kept.drewN (Kept.grown (Kept.alloc (Kept.drewN (Kept.refl _ wa) m) _) hg (fun q e _ => .inr e)) n1) (fun _ => .inl rfl) v'
    refine ⟨hwa.rstep ⟨Boxed.set (W := w2.drewN n1) v' hb2, ?_⟩ ?_ hk, cellB (hk.heap hop (hwa.offR hop (by decide) (by decide))) rfl⟩
    · rw [show (L ++ [s]).length = L.length + 1 by simp, show (L ++ [s]).map Value.string = L.map .string ++ [.string s] by simp]
      exact World.ownsRow.kept (w := w2.drewN n1) hr (grownBy_setCell' (w2.drewN n1) b _) (.inr (hb2.not_row (by decide) hr).symm)
    · intro q e
      rcases hat with e' | e'
      · rw [e'] at e; exact .inl e
      · rw [e'] at e; cases e; exact .inr (Nat.le_succ _)
  have KC := Lib.hid hkc
  have KO := Lib.hid hown
  have KEY := Lib.hid key
  clear hkc hown key hwa hbx hop
  refine wp_planC (fun W => W.cell? ⟨b, 0, none⟩ = some (.slice ap L.length cap)) 11 [.flt 0, .flt 1, .flt 2, .flt 3, .flt 4, .seg [5, 6] 7, .seg [] 8, .seg [9, 10] 11] [] (by kernel_rfl) (by kernel_rfl) (fun _ _ _ dst _ h => by cases dst <;> exact h) (fun _ _ h => h) hc (fun n0 => ?_)
  repeat (refine planC_flt rfl rfl ?_; apply Exists.intro; refine ⟨fun w' hw' => ?_, ?_⟩; (go_simp; rfl); simp only [Act.put, List.setIfInBounds_toArray, List.set_cons_succ, List.set_cons_zero])
  simp only [wpPlanC, pick, List.filterMap_cons, List.filterMap_nil, List.getElem?_cons_succ, List.getElem?_cons_zero]
  repeat (quiet_step (fail))
  refine wpQuiet_nil ?_
  rintro _ ⟨n1, rfl⟩
  go_wp2
  refine Halt.mk ⟨.inr (by exact KC.out (n0 + n1)), ?_⟩
  refine wpList_append_own_at _ rfl _ _ 22 rfl B 9 i0 (.string ⟨#[]⟩) 1 16 Try.underlying22 hi hz0 hz1 hz2 rfl (by decide) (.slice ap L.length cap) L.length _ rfl (by exact KO.out (n0 + n1)) ⟨wa.heap.size, 0, none⟩ 1 1 [.string s] rfl rfl (cell_one_new _ _ _) (by simp [Value.oneCell']) (by unfold maxLen; omega) (by omega) (by simp [World.drewN]; omega) ?_
  intro v' w2 hr2 hg2 _ hat
  obtain ⟨g1, g2, g3⟩ := KEY.out (n0 + n1) v' w2 hr2 (by exact hg2) (by rw [World.size_alloc] at hat; exact hat)
  have G3 := Lib.hid g3
  obtain ⟨ap', cap', rfl, _⟩ := ownsRow_form hr2
  clear hr2 hg2 hat g3
  go_wp2
  refine Halt.mk ⟨.inr g1, ?_⟩
  repeat (quiet_step (fail))
  refine wpQuiet_nil ?_
  rintro _ ⟨n2, rfl⟩
  go_wp2
  refine Halt.mk ⟨.inl trivial, ?_⟩
  obtain ⟨hR3, hop4⟩ := G3.out n2
  clear G3
  generalize (w2.drewN n2).setCell ⟨b, 0, none⟩ (.slice ap' (L.length + 1) cap') = w3 at *
  go_wp2_with fail
  refine (spush g R L s w3 hR3.dq (by omega)).mono ?_
  rintro e w4 ⟨rfl, r, hD4, hr4, hk4⟩
  have hR4 := hR3.dstep hD4 (fun r' e => by cases e; exact hr4) (hk4.mono (fun q _ e => e.elim .inl (fun e => .inr (.inr (congrArg some e.symm)))))
  go_wp2
  go_ret
  exact ⟨rfl, _, _, hR4⟩
end Go.Proofs.Ytnleffjheimmbaa
