/- The deque of ints: its list lies in new memory. -/
import Derived.Test.YtnleffjheimmbaaDq2i
namespace Go.Proofs.Ytnleffjheimmbaa
open Go.RowKit Go.Shelf
attribute [local go_sem] Oper.semAt_some

theorem iinfoE : (Try.prog.info? 3).map (fun i => (i.zero, i.size, i.bytes)) = some (some (.int .i64 0), 1, 8) := by kernel_rfl

theorem iall1_nil_in (n : Nat) (hn : 1 ≤ n) (l Bd : Nat) (J : List (Nat × Int) → World → Prop)
    (W : World) (hB : W.cell? ⟨Bd, 0, none⟩ = some (.pointer none)) (h0 : J [] W) :
    CallsIn Fence.wide n Try.prog 54 #[.func (.yield l) #[] #[], .pointer (some ⟨Bd, 0, none⟩)] W fun e W' => (∃ v, e = .returned v) ∧ J [] W' := by
  refine callsIn_of_wp Try.func54 rfl trivial ?_ rfl
  simp only [Try.ntmps54, List.size_toArray, List.length_cons, List.length_nil, Nat.reduceAdd, Nat.reduceSub, Array.replicate_succ, Array.replicate_zero, List.push_toArray, List.append_toArray, List.nil_append, List.cons_append]
  gi_wp2
  gi_loopw [3] (fun i wr => i = .int .i64 0 ∧ J [] wr ∧ wr.cell? ⟨Bd, 0, none⟩ = some (.pointer none)) (fun _ _ => 0)
  case atStart => exact ⟨rfl, h0, hB⟩
  case round =>
    obtain ⟨rfl, hJs, hBr⟩ := hrel
    gi_wp2_with (refine ⟨trivial, ?_⟩; gi_at_call 18; refine (callsIn_wide.2 (ilen_nil _)).mono ?_; rintro e w' ⟨rfl, rfl⟩)
    go_end0
    exact ⟨⟨_, rfl⟩, hJs⟩

set_option maxHeartbeats 800000 in
/-- The list of a row, or of none: in new memory. -/
theorem ilist_in (d : Option Addr) (L : List Int) (w : World) (hL : L.length ≤ 4000000)
    (hseq : ∀ w1 : World, Below w.heap.size w w1 → w1.heap.size = w.heap.size + 2 → w1.cell? ⟨w.heap.size + 1, 0, none⟩ = some (.pointer d) →
      SeqStopsK Fence.wide 5 Try.prog 54 #[.pointer (some ⟨w.heap.size + 1, 0, none⟩)] (fun x : Nat × Int => #[.int .i64 (x.1 : Int), .int .i64 x.2]) (iKpBox w.heap.size (w.heap.size + 1)) (fun ys => ys = iupto L L.length) (fun _ => True) L.length w1) :
    CallsIn Fence.wide 6 Try.prog 32 #[.pointer d] w fun e W' => ∃ v, e = .returned v ∧ W'.ownsRow w.heap.size 3 1 v L.length (L.map (.int .i64 ·)) ∧ (v = .slice none 0 0 ↔ L = []) ∧ Below w.heap.size w W' := by
  obtain ⟨i0, hi, hz0, hz1, hz2⟩ := info_parts iinfoE
  refine callsIn_of_wp_marks Try.func32 rfl trivial ?_ rfl
  simp only [Try.ntmps32, List.size_toArray, List.length_cons, List.length_nil, Nat.reduceAdd, Nat.reduceSub, Array.replicate_succ, Array.replicate_zero, List.push_toArray, List.append_toArray, List.nil_append, List.cons_append]
  gi_wp2_with (refine ⟨trivial, ?_⟩; gi_at_call 51; refine (callsIn_wide.2 (iall d _)).mono ?_; rintro e w' ⟨rfl, rfl⟩)
  have bO := Boxed.new w 33 (.slice none 0 0)
  have bN := Boxed.new (w.alloc (.cells #[.slice none 0 0] 33)) 58 (.pointer d)
  rw [World.size_alloc] at bN
  have hB0 : Below w.heap.size w ((w.alloc (.cells #[.slice none 0 0] 33)).alloc (.cells #[.pointer d] 58)) := ((Below.refl _ w).alloc (Nat.le_refl _) _).alloc (by simp) _
  refine wpIn_rangeFunc_ownG rfl (by omega) (gf := 54) (lb := #[.pointer (some ⟨w.heap.size + 1, 0, none⟩)]) rfl trivial (enters_of Try.func54 (by kernel_rfl) rfl)
    (hseq _ hB0 (by simp) bN.cell) iKpBox.trans (fun W l o o' hl h ho hw => ⟨belowK_b (w := w) (Nat.le_refl _) W l o o' (by simp at hl; omega) h ho hw, World.putObj_heap_other (by simp at hl; omega)⟩) (Below.refl _ _) (fun _ => rfl)
    (fun pre W => (∃ v, Boxed W w.heap.size 33 v ∧ W.ownsRow w.heap.size 3 1 v pre.length (pre.map fun x => (.int .i64 x.2)) ∧ (v = .slice none 0 0 ↔ pre = [])) ∧ (Below w.heap.size w W ∧ Boxed W (w.heap.size + 1) 58 (.pointer d)))
    (fun _ _ _ => False)
    (OwnFrom.and (Own.from (holdsRow_own w.heap.size w.heap.size 33 3 1 (fun pre : List (Nat × Int) => pre.length) (fun pre : List (Nat × Int) => pre.map fun x => (.int .i64 x.2)) (fun (pre : List (Nat × Int)) v => v = .slice none 0 0 ↔ pre = [])) _) (OwnFrom.and (ownFrom_below (Nat.le_refl _) (by simp; omega)) (Own.from (boxed_own _ _ _) _)))
    (fun _ _ _ _ _ hs _ _ => hs)
    ⟨⟨_, bO.alloc _, World.ownsRow_nil _ _ _ _, by simp⟩, hB0, bN⟩
    (fun x => { tmps := #[.pointer d, undef, .slice none 0 0, .pointer (some ⟨w.heap.size, 0, none⟩), undef, .int .i64 x.2, .pointer d, .func (.func 54) #[] #[.pointer (some ⟨w.heap.size + 1, 0, none⟩)], .int .i64 (x.1 : Int), .int .i64 x.2, undef, undef, undef, undef, undef], defers := [] }) ?assign ?body ?done ?stop
  case assign =>
    intro l x W K hK
    gi_wp2
    exact hK
  case body =>
    rintro l pre x W ⟨⟨v, hv, hrow, hnil⟩, hB, hbn⟩ hlt
    have hc := hv.cell
    have hle := hB.size
    gi_wp2_with (gi_at_builtin; refine wpListIn_append_own _ rfl _ _ 33 rfl w.heap.size 3 i0 (.int .i64 0) 1 8 Try.underlying33 hi hz0 hz1 hz2 rfl (by decide) _ _ _ rfl (hrow.alloc _) ⟨W.heap.size, 0, none⟩ 1 1 [.int .i64 x.2] rfl rfl (cell_one_new _ _ _) (by simp [Value.oneCell']) (by unfold maxLen; omega) (by omega) (by simp; omega) ?_; intro v' w1 hown' hgrow _; obtain ⟨g', cap', rfl⟩ := ownsRow_succ hown'; obtain ⟨hv1, hv2, hr2, hk2, hb2⟩ := hv.appended (by decide) hrow hB.size (Nat.le_refl _) hown' hgrow; have hc1 := hv1.cell; have hf1 := hv1.frozen; have hbn2 := ((hbn.alloc _).kept hgrow (hbn.not_row (by decide) hrow)).other (B' := w.heap.size) (by omega) (.slice (some ⟨g', 0, none⟩) (pre.length + 1) cap'))
    exact ⟨hk2.from _, ⟨hb2, hbn2.trans hbn.symm⟩, ⟨_, hv2, by simpa using hr2, by simp⟩, hB.trans hb2, hbn2⟩
  case done =>
    rintro D ys W hD rfl ⟨⟨v, hv, hrow, hnil⟩, hB, _⟩ hK
    have hc := hv.cell
    have hys : (iupto L L.length).map (fun x => (.int .i64 x.2 : Value)) = L.map (.int .i64 ·) := by
      have := iupto_snd L L.length
      rw [List.take_length] at this
      conv => rhs; rw [← this]
      rw [List.map_map]; rfl
    have hyl := iupto_length L (Nat.le_refl _)
    have HY := Lib.hid hys
    have HL := Lib.hid hyl
    clear hys hyl
    gi_wp2
    refine ⟨by simp, .inl ⟨_, _, rfl, run_takeDeferred hK, ?_⟩⟩
    refine ⟨_, results_tmp rfl _ _ _, v, rfl, ?_, ?_, hB.trans (belowK_b (w := w) (Nat.le_refl _) W D _ _ (by simp at hD; omega) hK rfl rfl)⟩
    · rw [HY.out, HL.out] at hrow; exact ownsRow_putObj hrow _ hK rfl
    · rw [hnil]
      constructor
      · intro h; have := HL.out; rw [h] at this; exact List.eq_nil_of_length_eq_zero this.symm
      · intro h; subst h; rfl
  case stop =>
    rintro D c pre W _ _ h _
    exact h.elim

theorem ilist_dq (g : Nat) (R : Option Nat) (L : List Int) (w : World) (h : iDq w g R L) :
    Calls Try.prog 32 #[.pointer (some ⟨g, 0, none⟩)] w fun e W' => ∃ v, e = .returned v ∧ W'.ownsRow w.heap.size 3 1 v L.length (L.map (.int .i64 ·)) ∧ (v = .slice none 0 0 ↔ L = []) ∧ Below w.heap.size w W' := by
  refine (callsIn_wide (n := 6)).1 (ilist_in _ L w h.len fun w1 hb hz hc => ?_)
  intro l J Jx W hW hJ hJx hY h0
  have hb' : Below w.heap.size w W := hb.trans (hW.mono hb.size)
  have hD : iDq W g R L := h.kept (Kept.of_below (S := fun i => w.heap.size ≤ i) hb' (fun _ _ h => h)) (by have := h.lt; omega) (fun r hr => by have := (h.ring hr).1; omega)
  refine (iall1_in 5 (by omega) l (w.heap.size + 1) g w.heap.size R L h.lt (fun r hr => (h.ring hr).1) J Jx
    (fun pre W k hj => hJ pre W _ none hj ⟨rfl, rfl, rfl, Nat.le_refl _, fun _ _ _ => rfl⟩ (by simp)) (fun pre W k hj => hJx pre W _ none hj ⟨rfl, rfl, rfl, Nat.le_refl _, fun _ _ _ => rfl⟩ (by simp)) hY W ?_ hD h0)
  exact (hW.cell (p := ⟨w.heap.size + 1, 0, none⟩) (by rw [hz]; show w.heap.size + 1 < _; omega)).trans hc

theorem ilist_nil (w : World) :
    Calls Try.prog 32 #[.pointer none] w fun e W' => e = .returned (.slice none 0 0) ∧ Below w.heap.size w W' := by
  have h := (callsIn_wide (n := 6)).1 (ilist_in none [] w (by simp) fun w1 hb hz hc => ?_)
  · refine h.mono ?_
    rintro e W' ⟨v, rfl, _, hv, hb⟩
    exact ⟨by rw [hv.2 rfl], hb⟩
  · intro l J Jx W hW hJ hJx hY h0
    refine (iall1_nil_in 5 (by omega) l (w.heap.size + 1) J W ?_ h0).mono fun e W' ⟨he, hj⟩ => ⟨he, .inl ⟨_, by simp [iupto], hj⟩⟩
    exact (hW.cell (p := ⟨w.heap.size + 1, 0, none⟩) (by rw [hz]; show w.heap.size + 1 < _; omega)).trans hc
end Go.Proofs.Ytnleffjheimmbaa
