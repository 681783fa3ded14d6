/- The document's row: a value taken out. -/
import Derived.Test.YtnleffjheimmbaaRow
namespace Go.Proofs.Ytnleffjheimmbaa
open Go.RowKit Go.Shelf
attribute [local go_sem] stillV_value stillV_skip

set_option maxRecDepth 8000 in
set_option maxHeartbeats 1600000 in
theorem rowRemove (b base : Nat) (v : Value) (L : List ByteArray) (k : Nat) (w : World) (h : Rw w b base v L) (hb : base ≤ w.heap.size) (hk : k < L.length) (hl : L.length ≤ 1000000) :
    Calls Try.prog 43 #[.pointer (some ⟨b, 0, none⟩), .int .i64 k] w fun e w' => e = .returned (.tuple #[.string L[k], .int .i64 0]) ∧ ∃ v', Rw w' b base v' (L.take k ++ L.drop (k + 1)) ∧ (∀ q, v'.ownBlock = some q → w.heap.size ≤ q) ∧ Kept (fun q => q = b) w w' := by
  obtain ⟨ap, cap, rfl, hc, hcap, hn, hs⟩ := rw_len h
  have hbox := h.1
  have hblt := hbox.lt
  have hd : decide ((0 : Int) ≤ k ∧ (k : Int) < (L.length : Int)) = true := by simp; omega
  clear h
  have hap : ap ≠ none := fun e => by have := hn e; omega
  obtain ⟨ad, rfl⟩ := Option.ne_none_iff_exists'.1 hap
  obtain ⟨q, cur, rfl, hh, ht, hsz, hbq⟩ := hs ad rfl
  have hwk : IntKind.i64.wrap ((k : Int) + 1) = ((k + 1 : Nat) : Int) := (IntWalk.i64_in _ (by omega)).trans (by omega)
  have hck : w.cell? ⟨q, k, none⟩ = some (.string L[k]) := by
    refine cellB hh ?_
    have : (cur.toList.take L.length)[k]? = cur[k]? := by rw [List.getElem?_take, if_pos hk, Array.getElem?_toList]
    rw [← this, ht, List.getElem?_map, List.getElem?_eq_getElem hk]; rfl
  have hH1 := holds_row hh ht (by simp) 0 k (by omega)
  have hX1 : ((L.map Value.string).drop 0).take k = (L.take k).map .string := by rw [List.drop_zero, List.map_take]
  rw [hX1] at hH1
  have hH2 := holds_row hh ht (by simp) (k + 1) (L.length - (k + 1)) (by omega)
  have hX2 : ((L.map Value.string).drop (k + 1)).take (L.length - (k + 1)) = (L.drop (k + 1)).map .string := by rw [List.take_of_length_le (by simp), List.map_drop]
  rw [hX2] at hH2
  clear hX1 hX2
  obtain ⟨i0, hi, hz0, hz1, hz2⟩ := info_parts wkInfo
  obtain ⟨B, hBe⟩ : ∃ B, B = w.heap.size := ⟨_, rfl⟩
  have hBw : B ≤ w.heap.size := by omega
  have hmade : ∀ n0, ((w.drewN n0).alloc (.cells #[] 9)).ownsRow B 9 1 (.slice (some ⟨w.heap.size, 0, none⟩) 0 0) 0 [] := fun n0 => World.ownsRow_made (e := 9) (size := 1) (w.drewN n0) #[] 0 (by exact hBw) (by unfold maxLen; omega) rfl
  have hB1 : ∀ n0, Below B w ((w.drewN n0).alloc (.cells #[] 9)) := fun n0 => (show Below B w (w.drewN n0) from ⟨rfl, rfl, rfl, Nat.le_refl _, fun _ _ => rfl⟩).alloc hBw _
  have hBW : ∀ w', Below B w w' → Below w.heap.size w w' := fun w' h => by rw [← hBe]; exact h
  have k1 : ∀ n0 w2, ((w.drewN n0).alloc (.cells #[] 9)).grownBy w2 (some w.heap.size) → Below B w w2 ∧ B ≤ w2.heap.size ∧ w2.cell? ⟨b, 0, none⟩ = some (.slice (some ⟨q, 0, none⟩) L.length cap) ∧ Holds w2 (some ⟨q, k + 1, none⟩) (L.length - (k + 1)) ((L.drop (k + 1)).map .string) := by
    intro n0 w2 hg
    have h2 : Below B w w2 := (hB1 n0).grown hg (by simp [World.drewN]; omega) (fun q e => by cases e; omega)
    have hbx : Boxed w2 b 45 _ := ((hBW _ h2).block _ hblt).trans hbox
    exact ⟨h2, by have := h2.size; omega, hbx.cell, hH2.below (hBW _ h2)⟩
  have k3 : ∀ v1 xs v2 w2 w3 n1, Below B w w2 → B ≤ w2.heap.size → w2.ownsRow B 9 1 v1 k xs → w2.grownBy w3 v1.ownBlock → w3.ownsRow B 9 1 v2 (k + (L.length - (k + 1))) ((L.take k).map .string ++ (L.drop (k + 1)).map .string) →
      w3.cell? ⟨b, 0, none⟩ = some (.slice (some ⟨q, 0, none⟩) L.length cap) ∧ w3.frozen? ⟨b, 0, none⟩ = false ∧ Rw ((w3.drewN n1).setCell ⟨b, 0, none⟩ v2) b base v2 (L.take k ++ L.drop (k + 1)) ∧ (∀ q, v2.ownBlock = some q → w.heap.size ≤ q) ∧ Kept (fun q => q = b) w ((w3.drewN n1).setCell ⟨b, 0, none⟩ v2) := by
    intro v1 xs v2 w2 w3 n1 h1 h2 hr hg hr3
    have h4 := below_app0 h1 h2 hr hg
    have hbx : Boxed w3 b 45 _ := ((hBW _ h4).block _ hblt).trans hbox
    refine ⟨hbx.cell, hbx.frozen, ⟨Boxed.set (W := w3.drewN n1) v2 hbx, ?_⟩, fun q e => by rw [← hBe]; exact (hr3.lt q e).1, ?_⟩
    · have hx : (L.take k ++ L.drop (k + 1)).length = k + (L.length - (k + 1)) := by simp; omega
      have hy : (L.take k ++ L.drop (k + 1)).map Value.string = (L.take k).map .string ++ (L.drop (k + 1)).map .string := by simp
      rw [hx, hy]
      exact World.ownsRow.kept (w := w3.drewN n1) (ownsRow_lower hr3 (by omega)) (grownBy_setCell' (w3.drewN n1) b _) (.inr (hbx.not_row (by decide) hr3).symm)
    · exact Kept.setCell (S := fun q => q = b) (Kept.drewN (Kept.of_below (hBW _ h4) (fun q h1 h2 => by omega)) n1) (p := ⟨b, 0, none⟩) (fun _ => rfl) _
  have hH1' : ∀ n0, Holds ((w.drewN n0).alloc (.cells #[] 9)) (some ⟨q, 0, none⟩) k ((L.take k).map .string) := fun n0 => hH1.below (hBW _ (hB1 n0))
  have kc : ∀ n0, ((w.drewN n0).alloc (.cells #[] 9)).cell? ⟨b, 0, none⟩ = some (.slice (some ⟨q, 0, none⟩) L.length cap) := fun n0 => Boxed.cell (t := 45) (((hBW _ (hB1 n0)).block _ hblt).trans hbox)
  have KC := Lib.hid kc
  have KM := Lib.hid hmade
  have K1 := Lib.hid k1
  have K3 := Lib.hid k3
  have HH := Lib.hid hH1'
  clear kc hmade k1 k3 hH1' hBW hB1
  have hle0 : (k : Int) ≤ (k : Int) + 1 := by omega
  have hle1 : (k : Int) ≤ (cap : Int) := by omega
  have hle2 : (k : Int) + 1 ≤ (L.length : Int) := by omega
  have hle3 : (0 : Int) ≤ (k : Int) + 1 := by omega
  by_cases hci : cap = k + 1
  · have hil : L.length - (k + 1) = 0 := by omega
    have hX : (L.drop (k + 1)).map Value.string = [] := by rw [List.drop_of_length_le (by omega)]; rfl
    rw [hX, hil] at K3
    clear hil hX
    subst hci
    clear hn hs hap
    go_enter Try.func43, Try.ntmps43
    go_wp2_with fail
    refine (in_row k L.length w).mono ?_
    rintro e w' ⟨rfl, rfl⟩
    rw [hd]
    go_wp2_with fail
    refine wp_planC (fun W => W.cell? ⟨b, 0, none⟩ = some (.slice (some ⟨q, 0, none⟩) L.length (k + 1))) 19 [.flt 0, .flt 2, .flt 3, .flt 4, .flt 5, .flt 6, .flt 7, .flt 9, .flt 10, .flt 11, .flt 12, .flt 13, .flt 14, .flt 15, .seg [] 1, .seg [] 8, .seg [] 16, .seg [17, 18] 19] [] (by kernel_rfl) (by kernel_rfl) (fun _ _ _ dst _ h => by cases dst <;> exact h) (fun _ _ h => h) hc (fun n0 => ?_)
    repeat (refine planC_flt rfl rfl ?_; apply Exists.intro; refine ⟨fun w' hw' => ?_, ?_⟩; (go_simp; rfl); simp only [Act.put, List.setIfInBounds_toArray, List.set_cons_succ, List.set_cons_zero])
    simp only [wpPlanC, pick, List.filterMap_cons, List.filterMap_nil, List.getElem?_cons_succ, List.getElem?_cons_zero]
    go_wp2
    refine Halt.mk ⟨.inr (KC.out n0), ?_⟩
    refine wpList_append_holds rfl _ _ 22 rfl B 9 i0 (.string ⟨#[]⟩) 16 Try.underlying22 hi hz0 hz1 hz2 rfl _ 0 [] rfl (KM.out n0) _ k _ _ rfl (HH.out n0) (fun h => by cases h) (oneCell_strings _) (by unfold maxLen; omega) (by omega) (by simp [World.drewN]; omega) ?_
    intro v1 w2 hr1 hg1
    rw [Nat.zero_add, List.nil_append] at hr1
    obtain ⟨hB2, hS2, hc2, hT2⟩ := K1.out n0 w2 hg1
    clear hg1
    go_wp2
    refine Halt.mk ⟨.inr hc2, ?_⟩
    refine wpList_append_holds rfl _ _ 22 rfl B 9 i0 (.string ⟨#[]⟩) 16 Try.underlying22 hi hz0 hz1 hz2 rfl _ k _ rfl hr1 (some ⟨q, 0, none⟩) 0 0 [] rfl (holds_none _ _) (fun h => by cases h) (by simp) (by unfold maxLen; omega) (by omega) hS2 ?_
    intro v2 w3 hr2 hg2
    have g0 := fun n1 => K3.out v1 _ v2 w2 w3 n1 hB2 hS2 hr1 hg2 hr2
    have G0 := Lib.hid g0
    have g1 := (g0 0).1
    have g2 := (g0 0).2.1
    obtain ⟨ap', cap', rfl, _⟩ := ownsRow_form hr2
    clear hg2 g0 hr2
    go_wp2
    refine Halt.mk ⟨.inr g1, ?_⟩
    repeat (quiet_step (fail))
    refine wpQuiet_nil ?_
    rintro _ ⟨n1, rfl⟩
    go_wp2
    refine Halt.mk ⟨.inl trivial, ?_⟩
    go_wp2
    go_ret2
    exact ⟨rfl, _, (G0.out n1).2.2.1, (G0.out n1).2.2.2.1, (G0.out n1).2.2.2.2⟩
  · clear hn hs hap
    go_enter Try.func43, Try.ntmps43
    go_wp2_with fail
    refine (in_row k L.length w).mono ?_
    rintro e w' ⟨rfl, rfl⟩
    rw [hd]
    go_wp2_with fail
    refine wp_planC (fun W => W.cell? ⟨b, 0, none⟩ = some (.slice (some ⟨q, 0, none⟩) L.length cap)) 19 [.flt 0, .flt 2, .flt 3, .flt 4, .flt 5, .flt 6, .flt 7, .flt 9, .flt 10, .flt 11, .flt 12, .flt 13, .flt 14, .flt 15, .seg [] 1, .seg [] 8, .seg [] 16, .seg [17, 18] 19] [] (by kernel_rfl) (by kernel_rfl) (fun _ _ _ dst _ h => by cases dst <;> exact h) (fun _ _ h => h) hc (fun n0 => ?_)
    repeat (refine planC_flt rfl rfl ?_; apply Exists.intro; refine ⟨fun w' hw' => ?_, ?_⟩; (go_simp; rfl); simp only [Act.put, List.setIfInBounds_toArray, List.set_cons_succ, List.set_cons_zero])
    simp only [wpPlanC, pick, List.filterMap_cons, List.filterMap_nil, List.getElem?_cons_succ, List.getElem?_cons_zero]
    go_wp2
    refine Halt.mk ⟨.inr (KC.out n0), ?_⟩
    refine wpList_append_holds rfl _ _ 22 rfl B 9 i0 (.string ⟨#[]⟩) 16 Try.underlying22 hi hz0 hz1 hz2 rfl _ 0 [] rfl (KM.out n0) _ k _ _ rfl (HH.out n0) (fun h => by cases h) (oneCell_strings _) (by unfold maxLen; omega) (by omega) (by simp [World.drewN]; omega) ?_
    intro v1 w2 hr1 hg1
    rw [Nat.zero_add, List.nil_append] at hr1
    obtain ⟨hB2, hS2, hc2, hT2⟩ := K1.out n0 w2 hg1
    clear hg1
    go_wp2
    refine Halt.mk ⟨.inr hc2, ?_⟩
    refine wpList_append_holds rfl _ _ 22 rfl B 9 i0 (.string ⟨#[]⟩) 16 Try.underlying22 hi hz0 hz1 hz2 rfl _ k _ rfl hr1 (some ⟨q, k + 1, none⟩) (L.length - (k + 1)) _ _ rfl hT2 (fun h => by cases h) (oneCell_strings _) (by unfold maxLen; omega) (by omega) hS2 ?_
    intro v2 w3 hr2 hg2
    have g0 := fun n1 => K3.out v1 _ v2 w2 w3 n1 hB2 hS2 hr1 hg2 hr2
    have G0 := Lib.hid g0
    have g1 := (g0 0).1
    have g2 := (g0 0).2.1
    obtain ⟨ap', cap', rfl, _⟩ := ownsRow_form hr2
    clear hg2 g0 hr2
    go_wp2
    refine Halt.mk ⟨.inr g1, ?_⟩
    repeat (quiet_step (fail))
    refine wpQuiet_nil ?_
    rintro _ ⟨n1, rfl⟩
    go_wp2
    refine Halt.mk ⟨.inl trivial, ?_⟩
    go_wp2
    go_ret2
    exact ⟨rfl, _, (G0.out n1).2.2.1, (G0.out n1).2.2.2.1, (G0.out n1).2.2.2.2⟩
end Go.Proofs.Ytnleffjheimmbaa
