/- A reader of requests: 'Split'. -/
import Derived.Test.YtdfkdbdhaaiadaaDoorRe13
import Derived.Test.YtdfkdbdhaaiadaaDoorPlan
namespace Go.Proofs.YtdfkdbdhaaiadaaDoor
open Go.RowKit Go.Shelf
attribute [local go_sem] Oper.semAt_some

/-- The five blocks that 'Split' makes ahead of its loop. -/
def S5 (w : World) (v : Value) : World :=
  ((((w.alloc (.cells #[v, .int .i64 0] 57)).alloc (.cells #[.slice none 0 0] 24)).alloc (.cells #[.string ⟨#[]⟩] 9)).alloc (.cells #[.pointer (some ⟨w.heap.size, 0, none⟩)] 53)).alloc (.cells #[.pointer (some ⟨w.heap.size + 1 + 1, 0, none⟩)] 61)

theorem S5_kept (w : World) (v : Value) : Kept NoBlock w (S5 w v) := (((((Kept.refl NoBlock w).alloc _).alloc _).alloc _).alloc _).alloc _
theorem S5_size (w : World) (v : Value) : (S5 w v).heap.size = w.heap.size + 5 := by simp [S5]

/-- What 'Split' leaves. -/
def SplitEnd (M : List (List Bs) × Nat × Bs) (w : World) (e : Ending) (w' : World) : Prop :=
  Kept NoBlock w w' ∧ ∃ va out, e = .returned (.tuple #[va, .int .i64 (M.2.1 : Nat), strV M.2.2]) ∧ OutsAt w' w.heap.size va out ∧ out.map (·.2) = M.1

theorem ownsRow_other {W : World} {b1 b2 : Nat} {e1 e2 : TypeId} {v1 v2 : Value} {n1 n2 : Nat} {xs1 xs2 : List Value} (he : e1 ≠ e2) (h1 : W.ownsRow b1 e1 1 v1 n1 xs1) (h2 : W.ownsRow b2 e2 1 v2 n2 xs2) :
    v1.ownBlock = none ∨ v1.ownBlock ≠ v2.ownBlock := by
  rcases h1.2 with ⟨rfl, _⟩ | ⟨g1, cap1, cur1, rfl, _, hg1, _⟩
  · exact .inl rfl
  · rcases h2.2 with ⟨rfl, _⟩ | ⟨g2, cap2, cur2, rfl, _, hg2, _⟩
    · exact .inr (by simp [Value.ownBlock])
    · refine .inr fun e => ?_
      obtain rfl : g1 = g2 := by simpa [Value.ownBlock] using e
      rw [hg1] at hg2
      simp at hg2
      exact he hg2.2

/-- One more is collected. -/
theorem coll_append {W w1 : World} {ab B0 : Nat} {va v' : Value} {out : Outs} {x : Value × List Bs} {tmp : Obj} (hv : Boxed W ab 24 va) (ho : OutsAt W B0 va out) (hx : OwnS W B0 x.1 x.2) (hgrow : (W.alloc tmp).grownBy w1 va.ownBlock)
    (hown' : w1.ownsRow B0 48 1 v' (out.length + 1) (out.map (·.1) ++ [x.1])) (hab : ab < B0) (hB0 : B0 ≤ W.heap.size) :
    Boxed w1 ab 24 va ∧ KeepsFrom B0 W (w1.setCell ⟨ab, 0, none⟩ v') ∧ Kept (fun k => k = ab ∨ B0 ≤ k) W (w1.setCell ⟨ab, 0, none⟩ v') ∧ Coll ab B0 (out ++ [x]) (w1.setCell ⟨ab, 0, none⟩ v') := by
  have hte : (24 : TypeId) ≠ 48 := by decide
  have hts : (9 : TypeId) ≠ 48 := by decide
  have hts2 : (24 : TypeId) ≠ 9 := by decide
  have hv1 : Boxed w1 ab 24 va := (hv.alloc tmp).kept hgrow (hv.not_row hte ho.1)
  refine ⟨hv1, ?_, ?_, v', hv1.set v', ⟨?_, ?_⟩, ?_⟩
  · refine (((KeepsOthers.alloc W tmp).trans (KeepsOthers.of_grownBy hgrow fun j o ej hj => ?_)).trans (KeepsOthers.setCell _ _ _)).from _
    rcases (ho.1.alloc tmp).2 with ⟨rfl, _⟩ | ⟨g, cap, cur, rfl, _, hgb, _⟩
    · simp [Value.ownBlock] at ej
    · obtain rfl : g = j := by simpa [Value.ownBlock] using ej
      rw [hgb] at hj; cases hj; rfl
  · refine Kept.setCell (S := fun k => k = ab ∨ B0 ≤ k) (((Kept.refl _ W).alloc tmp).grown hgrow (fun k e _ => ?_)) (p := ⟨ab, 0, none⟩) (fun _ => .inl rfl) v'
    exact .inr (ho.1.lt k e).1
  · have := hown'.kept (grownBy_setCell' w1 ab v') (.inr (hv1.not_row hte hown').symm)
    rw [List.length_append, List.length_singleton, List.map_append]
    exact this
  · intro p hp
    have hpW : OwnS W B0 p.1 p.2 := by
      rcases List.mem_append.1 hp with h | h
      · exact ho.2 p h
      · rw [List.mem_singleton.1 h]; exact hx
    have h1 : OwnS (W.alloc tmp) B0 p.1 p.2 := ownsRow_kept2 hpW ((Kept.refl _ W).alloc tmp)
    have h2 : OwnS w1 B0 p.1 p.2 := World.ownsRow.kept h1 hgrow (ownsRow_other hts hpW ho.1)
    exact World.ownsRow.kept h2 (grownBy_setCell' w1 ab v') (.inr (hv1.not_row hts2 h2).symm)
  · have := hgrow.size
    simp at this ⊢
    omega

theorem Told.steady {w0 : World} {g ab bb B0 : Nat} {B : Option Nat} {b : Bs} {M : List (List Bs) × Nat × Bs} (hg : g < B0) (hbb : bb < B0) (hB : ∀ k, B = some k → k < B0) : Steady B0 (Told w0 g ab bb B0 B b M) := by
  rintro W l o o' hl ho hc ⟨rd, ⟨out, hcoll, hm⟩, bad, kept⟩
  have hk : Kept (fun k => k = l) W (W.putObj l o') := (Kept.refl _ W).putObj o' (fun _ => rfl)
  exact ⟨rd.keptS hk (by omega) (fun k e h => by have := hB k e; omega), ⟨out, Coll.steady _ _ _ W l o o' hl ho hc hcoll, hm⟩, hk.heap bad (by omega), kept.putObj o' (fun _ => .inr (.inr (.inr hl)))⟩

/-- A region of quiet operations, in any order, inside a fence. -/
theorem wpIn_plan0 {P : Program} {l : List Oper} {m id : Nat} {Q : Exit → Act → World → Prop} {a : Act} {w : World} (i : Nat) (Hf : List Nat) (hm : P.follows .mixedOrders = true)
    (hB : planOk l.toArray [] (i :: Hf) = true) (h : wpPlanIn m P l Q [] (i :: Hf) a w.drew) : (Code.region id l.toArray true).wpIn Fence.wide m P Q a w := by
  simp only [planOk, Bool.and_eq_true, decide_eq_true_eq, Bool.not_eq_true'] at hB
  obtain ⟨⟨hsel, hfuel⟩, hB⟩ := hB
  refine wpIn_region_any hm ?_
  have h2 := wpAnyIn_plan hsel [] (i :: Hf) (Array.replicate l.toArray.size false) a w.drew closed_start hB h
  rw [show planFuel [] (i :: Hf) = l.toArray.size from hfuel] at h2
  exact h2

set_option maxHeartbeats 3200000 in
theorem psplit (v : Value) (B : Option Nat) (b : Bs) (w : World) (hV : Vs w) (h : BytesV w v b) (hB : vblk v = B) (hBw : ∀ k, B = some k → k < w.heap.size) (hlen : b.length ≤ 100000000) :
    Calls Tryd.prog 11 #[v] w (SplitEnd (split parseV b) w) := by
  obtain ⟨M, hM⟩ : ∃ M, split parseV b = M := ⟨_, rfl⟩
  have HV := Lib.hid h
  have HVB := Lib.hid hB
  obtain ⟨i0, hi, hz0, hz1, hz2⟩ := info_parts strSlInfo
  obtain ⟨ap, cap, rfl, _, _⟩ := h.parts
  refine (callsIn_wide (n := 6)).1 ?_
  refine callsIn_of_wp_marks Tryd.func11 rfl trivial ?_ rfl
  simp only [Tryd.ntmps11, List.size_toArray, List.length_cons, List.length_nil, Nat.reduceAdd, Nat.reduceSub, Array.replicate_succ, Array.replicate_zero, List.push_toArray, List.append_toArray, List.nil_append, List.cons_append]
  gi_wp2_with (refine ⟨trivial, ?_⟩; gi_at_call 21; refine (callsIn_wide.2 (preqs _ _ _)).mono ?_; rintro e w' ⟨rfl, rfl⟩)
  obtain ⟨va, hva⟩ : ∃ va, va = (Value.slice ap b.length cap) := ⟨_, rfl⟩
  have hw5 : S5 w va = _ := rfl
  rw [hva] at hw5
  refine wpIn_rangeFunc_st (w := S5 w (.slice ap b.length cap)) rfl (by omega) (gf := 24) (lb := #[.pointer (some ⟨w.heap.size + 1 + 1 + 1, 0, none⟩), .pointer (some ⟨w.heap.size + 1 + 1 + 1 + 1, 0, none⟩)]) rfl trivial (enters_of Tryd.func24 (by kernel_rfl) rfl)
    (fun x : Value × List Bs => #[x.1]) (fun _ => rfl) (fun k => k = w.heap.size + 1 ∨ w.heap.size + 5 ≤ k) (fun k hk => by rw [S5_size] at hk; exact .inr hk)
    (Coll (w.heap.size + 1) (w.heap.size + 5)) (fun out => by rw [S5_size]; exact Coll.steady _ _ _)
    (fun out x W => OwnS W (w.heap.size + 5) x.1 x.2 ∧ out.length ≤ 100000000) (fun out x W l o o' _ ho hc h => ⟨ownsRow_putObj h.1 o' ho hc, h.2⟩)
    (Told (S5 w (.slice ap b.length cap)) w.heap.size (w.heap.size + 1) (w.heap.size + 1 + 1) (w.heap.size + 5) B b M) ?fin ?iter ?init
    (fun x => { tmps := #[Value.slice ap (List.length b) cap, undef, Value.slice none 0 0, Value.int IntKind.i64 0,
          Value.string { data := #[] }, Value.pointer (some { block := w.heap.size, off := 0 }),
          Value.pointer (some { block := w.heap.size + 1, off := 0 }),
          Value.pointer (some { block := w.heap.size + 1 + 1, off := 0 }), x.fst, Value.slice ap (List.length b) cap,
          Value.agg #[Value.slice ap (List.length b) cap, Value.int IntKind.i64 0],
          Value.agg #[Value.slice ap (List.length b) cap, Value.int IntKind.i64 0],
          Value.pointer (some { block := w.heap.size, off := 0 }),
          Value.pointer (some { block := w.heap.size, off := 0 }),
          Value.func (Fn.func 24) #[]
            #[Value.pointer (some { block := w.heap.size + 1 + 1 + 1, off := 0 }),
              Value.pointer (some { block := w.heap.size + 1 + 1 + 1 + 1, off := 0 })],
          x.fst, undef, undef, undef, undef, undef, undef, undef, undef, undef, undef, undef], defers := [] }) ?assign ?body ?done
  case fin => rw [S5_size]; exact Told.steady (by omega) (by omega) (fun k e => by have := hBw k e; omega)
  case iter =>
    intro l Bk hBk hY W hWB hWk hC
    rw [S5_size] at hBk
    obtain ⟨b0, b1, b2, b3, b4⟩ := five w (.cells #[Value.slice ap b.length cap, .int .i64 0] 57) (.cells #[.slice none 0 0] 24) (.cells #[.string ⟨#[]⟩] 9) (.cells #[.pointer (some ⟨w.heap.size, 0, none⟩)] 53) (.cells #[.pointer (some ⟨w.heap.size + 1 + 1, 0, none⟩)] 61)
    rw [← hM]
    have hk5 := S5_kept w (.slice ap b.length cap)
    refine preq1_in (6 - 1) (by omega) w (S5 w (.slice ap b.length cap)) l w.heap.size (w.heap.size + 1) (w.heap.size + 1 + 1) (w.heap.size + 1 + 1 + 1) (w.heap.size + 1 + 1 + 1 + 1) (w.heap.size + 5) B b
      (by omega) (by omega) (by omega) (by omega) (by omega) (by omega) (Nat.le_refl _) (by omega) (by omega) (by omega) hBw hlen (by omega) (by omega) (by omega) (by rw [S5_size]; exact Nat.le_refl _)
      ⟨hV, hk5.toB⟩ b3 b4 Bk hBk (fun out x W1 h1 h2 h3 h4 => hY out x W1 h1 h2 ⟨h3, h4⟩) W hWB hWk hC ?_ (hWk.heap b2 (fun h => h))
    refine RdAt.keptNo ⟨_, b0, HV.out.keptNo hk5, HVB.out, fun e => ?_⟩ hWk
    have := hBw _ e
    omega
  case init =>
    intro W hWk
    obtain ⟨b0, b1, b2, b3, b4⟩ := five w (.cells #[Value.slice ap b.length cap, .int .i64 0] 57) (.cells #[.slice none 0 0] 24) (.cells #[.string ⟨#[]⟩] 9) (.cells #[.pointer (some ⟨w.heap.size, 0, none⟩)] 53) (.cells #[.pointer (some ⟨w.heap.size + 1 + 1, 0, none⟩)] 61)
    exact ⟨_, hWk.heap b1 (fun h => h), ⟨World.ownsRow_nil _ _ _ _, fun p hp => by cases hp⟩, by have := hWk.size; rw [S5_size] at this; exact this⟩
  case assign =>
    intro l x W K hK
    gi_wp2
    exact hK
  case body =>
    rintro l out ⟨xv, xL⟩ W hl ⟨va, hv, ho, hsz⟩ ⟨hown, hol⟩
    rw [S5_size] at hl ⊢
    have hc := hv.cell
    have hlt := hv.lt
    have hrow := ho.1
    obtain ⟨ap1, cap1, e1, _⟩ := ownsRow_form hown
    dsimp only at hown e1 ⊢
    subst e1
    have HO := Lib.hid ho
    have HW := Lib.hid hown
    clear hV hB HV HVB h hM ho hown
    gi_wp2_with (gi_at_builtin; refine wpListIn_append_own _ rfl _ _ 24 rfl (w.heap.size + 5) 48 i0 (.slice none 0 0) 1 24 Tryd.underlying24 hi hz0 hz1 hz2 rfl (by decide) _ _ _ rfl (hrow.alloc _) ⟨W.heap.size, 0, none⟩ 1 1 [_] rfl rfl (cell_one_new _ _ _) (by simp [Value.oneCell']) (by unfold maxLen; omega) (by omega) (by simp; omega) ?_; intro v' w1 hown' hgrow _; obtain ⟨g', cap', rfl⟩ := ownsRow_succ hown'; obtain ⟨hv1, hk1, hk2, hc2⟩ := coll_append (x := (_, xL)) hv HO.out HW.out hgrow hown' (by omega) hsz; have hc1 := hv1.cell; have hf1 := hv1.frozen)
    exact ⟨hk1, hk2, hc2⟩
  case done =>
    rintro D W hD ⟨rd, ⟨out, ⟨va, hv, ho, hsz⟩, hm⟩, bad, kept⟩ hK
    obtain ⟨ad, e1, _⟩ : ∃ vr, W.heap[w.heap.size]? = some (.cells #[vr, .int .i64 (M.2.1 : Nat)] 57 (0, 0)) ∧ True := by
      obtain ⟨vr, h1, _⟩ := rd; exact ⟨vr, h1, trivial⟩
    obtain ⟨c0, c1, f0, f1⟩ := blk2 e1
    have hca := hv.cell
    have hcb := bad.cell
    have HO := Lib.hid ho
    have HM := Lib.hid hm
    have HKP := Lib.hid kept
    have HMM := Lib.hid hM
    clear rd e1 ho hm bad hv kept hV hB HV HVB h hM
    gi_wp2
    refine wpIn_plan0 0 [1, 2, 3, 4, 5, 6, 7, 8, 9] (by kernel_rfl) (by kernel_rfl) ?_
    simp only [wpPlanIn, pick, List.filterMap_cons, List.filterMap_nil, List.getElem?_cons_succ, List.getElem?_cons_zero]
    repeat (quiet_step (fail))
    refine wpQuiet_nil ?_
    rintro _ ⟨n1, rfl⟩
    gi_wp2
    refine ⟨by simp, .inl ⟨_, _, rfl, run_takeDeferred (w := W.drew.drewN n1) hK, ?_⟩⟩
    rw [HMM.out]
    refine ⟨_, by simp [results, Tryd.results11, go_sem]; rfl, ?_⟩
    rw [S5_size] at hD
    have hk1 : Kept NoBlock w W := (S5_kept w _).trans' HKP.out (fun i hi h => by rcases h with h | h | h | h <;> omega)
    have hk2 : Kept NoBlock w ((W.drew.drewN n1).putObj D (.deferred none)) := ((hk1.drew).drewN n1).putObj _ (fun h => by omega)
    have hKD : (W.drew.drewN n1).heap[D]? = some (.deferred (some [])) := hK
    have ho2 : OutsAt (W.drew.drewN n1) (w.heap.size + 5) va out := HO.out
    refine ⟨hk2, va, out, rfl, ⟨?_, fun p hp => ?_⟩, HM.out⟩
    · exact ownsRow_lower (ownsRow_putObj ho2.1 _ hKD rfl) (by omega)
    · exact ownsRow_lower (ownsRow_putObj (ho2.2 p hp) _ hKD rfl) (by omega)
end Go.Proofs.YtdfkdbdhaaiadaaDoor
