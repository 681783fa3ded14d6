/- The ring of bytes: what is fed. -/
import Derived.Test.YtlaahdjdlekopaaRg3
namespace Go.Proofs.Ytlaahdjdlekopaa
open Go.RowKit

/-- Behind some bytes more. -/
def RS.feed (s : RS) (b : List UInt8) : RS :=
  { s with off := s.off + b.length, first := s.first + (s.L.length + b.length - s.size), L := (s.L ++ b).drop (s.L.length + b.length - s.size) }

theorem feed_ring {s : RS} {b : List UInt8} {cs : Array Value} {m : Nat} (h : Ring bv cs 0 m s.first s.L) (hcs : cs.size = m) (hm : min (s.L.length + b.length) s.size ≤ m) (hms : m ≤ s.size) (hm0 : 0 < m) (ho : s.off = s.first + s.L.length) :
    Ring bv (layL cs.toList m (s.off + b.length - (b.length - (b.length - s.size))) ((b.drop (b.length - s.size)).map bv)).toArray 0 m (s.feed b).first (s.feed b).L := by
  by_cases hb : b.length ≤ s.size
  · have e0 : b.length - s.size = 0 := by omega
    have := h.lay bv hm0 hcs (b := b) (by omega) (s.L.length + b.length - s.size) (by omega)
    rw [e0, List.drop_zero, show s.off + b.length - (b.length - 0) = s.first + s.L.length by omega]
    exact this
  · have hmm : m = s.size := by omega
    have := (h.none bv (s.off + b.length - s.size)).lay bv hm0 hcs (b := b.drop (b.length - s.size)) (by rw [List.length_drop]; omega) 0 (by rw [List.length_drop, List.length_nil]; omega)
    rw [List.length_nil, Nat.add_zero, List.nil_append, List.drop_zero] at this
    have e1 : s.off + b.length - (b.length - (b.length - s.size)) = s.off + b.length - s.size := by omega
    have e2 : (s.feed b).first = s.off + b.length - s.size := by simp only [RS.feed]; omega
    have e3 : (s.feed b).L = b.drop (b.length - s.size) := by
      simp only [RS.feed]
      rw [List.drop_append, List.drop_eq_nil_of_le (by omega), List.nil_append]
      congr 1; omega
    rw [e1, e2, e3]
    exact this

theorem Rg.away {w : World} {g : Nat} {R : Option Nat} {s : RS} (h : Rg w g R s) {w' : World} (hk : Kept NoBlock w w') : Rg w' g R s := h.keptNo hk

set_option maxHeartbeats 1600000 in
theorem rfeed1 (g : Nat) (R : Option Nat) (s : RS) (ad0 : Addr) (n cap : Nat) (b : List UInt8) (w : World) (h : Rg w g R s) (hb : Holds w (some ad0) n (b.map bv)) (hncap : n ≤ cap)
    (haway : 0 < n → ad0.block ≠ g ∧ R ≠ some ad0.block) (hfit : s.off + n ≤ 1125899906842624) :
    Calls Try.prog 12 #[.pointer (some ⟨g, 0, none⟩), .slice (some ad0) n cap] w fun e w' => e = .returned (.int .i64 0) ∧ ∃ R', (R' = R ∨ ∃ r, R' = some r ∧ w.heap.size ≤ r) ∧ Rg w' g R' (s.feed b) ∧ Kept (fun k => k = g ∨ R = some k) w w' := by
  have hR := h
  obtain ⟨ad, m, h0, h1, h2, h3, h4, h5, h6, h7, h8⟩ := h
  obtain ⟨c0, c1, c2, c3, c4, c5, c6⟩ := blk7 h0
  clear h8
  have hbl : b.length = n := by simpa using hb.1
  obtain ⟨nn, hnn⟩ : ∃ nn, nn = s.L.length + n := ⟨_, rfl⟩
  obtain ⟨l, hl⟩ : ∃ l, l = s.L.length := ⟨_, rfl⟩
  have hsub : (s.off : Int) - s.first = l := by omega
  have hnn' : (l : Int) + n = nn := by omega
  have hll : l ≤ 16777216 := by omega
  have HL := Lib.hid hl
  have hw1 : IntKind.i64.wrap (l : Int) = l := IntWalk.i64_in _ (by omega)
  have hw2 : IntKind.i64.wrap (nn : Int) = nn := IntWalk.i64_in _ (by omega)
  have hno : nn ≤ 1125899906842624 := by omega
  have hroom := fun nq => rroom g R s nn (w.drewN nq) hR (by omega) hno
  have hfit' : ¬ ((n : Int) > 1125899906842624 - s.off) := by omega
  have hfo : s.first ≤ s.off := by omega
  have HNN := Lib.hid hnn
  have H1 := Lib.hid h1
  have hg0 := h0
  have HR := Lib.hid hroom
  have HBL := Lib.hid hbl
  clear hnn h1 h0 hroom hbl hl
  go_enter Try.func12, Try.ntmps12
  go_wp2_with (go_at_call 29; refine (rmade_rg g R s _ hR).mono ?_; rintro e w1 ⟨rfl, rfl⟩)
  refine wp_plan 0 [1, 2, 3, 4, 5, 6, 7, 8, 9, 10, 11, 12, 13] 14 [] [] (by kernel_rfl) (by kernel_rfl) ?_
  simp only [wpPlan, pick, List.filterMap_cons, List.filterMap_nil, List.getElem?_cons_succ, List.getElem?_cons_zero]
  repeat (quiet_step (fail))
  refine wpQuiet_nil ?_
  rintro _ ⟨nq, rfl⟩
  go_wp2_with (go_at_call 30; refine (HR.out nq).mono ?_; rintro e w1 ⟨rfl, R', m', hR', hM, hmm, hk1⟩)
  refine Halt.mk ?_
  have hMk := hM
  obtain ⟨ad1, g0, -, k2, k3, -, -, -, -, k8⟩ := hM
  have k3' := k3
  clear k8
  obtain ⟨b0, b1, b2, b3, b4, b5, b6⟩ := blk7 g0
  have q1 := frozenB g0 1
  obtain ⟨o2, ho2⟩ : ∃ o2, o2 = s.off + n := ⟨_, rfl⟩
  have hsum : (s.off : Int) + n = o2 := by omega
  have ho2l : o2 ≤ 1125899906842624 := by omega
  have hw3 : IntKind.i64.wrap (o2 : Int) = o2 := IntWalk.i64_in _ (by omega)
  obtain ⟨x, hx'⟩ : ∃ x : Int, x = (o2 : Int) - s.size := ⟨_, rfl⟩
  have hx : (o2 : Int) - s.size = x := hx'.symm
  have hwx : IntKind.i64.wrap x = x := IntWalk.i64_in _ (by omega)
  obtain ⟨f2, hf2⟩ : ∃ f2, f2 = s.first + (s.L.length + n - s.size) := ⟨_, rfl⟩
  have hmx : (if (s.first : Int) < x then x else (s.first : Int)) = f2 := by have := H1.out; split <;> omega
  obtain ⟨y, hy'⟩ : ∃ y : Int, y = (n : Int) - s.size := ⟨_, rfl⟩
  have hy : (n : Int) - s.size = y := hy'.symm
  obtain ⟨d, hd⟩ : ∃ d, d = n - s.size := ⟨_, rfl⟩
  have hmy : (if 0 < y then y else 0) = (d : Int) := by split <;> omega
  have hyb : y ≤ 1125899906842624 ∧ -16777216 ≤ y := by omega
  have hdn : d ≤ n := by omega
  have HO2 := Lib.hid ho2
  have HX := Lib.hid hx'
  have HF2 := Lib.hid hf2
  have HY := Lib.hid hy'
  have HD := Lib.hid hd
  have HG0 := Lib.hid g0
  clear ho2 hx' hf2 hy' hd
  go_wp2
  have g2 : (w1.setCell ⟨g, 1, none⟩ (.int .i64 o2)).heap[g]? = some (.cells #[.int .u64 s.id, .int .i64 o2, .int .u64 s.second, .int .i64 s.fork, .int .i64 s.first, .int .i64 s.size, .slice ad1 m' m'] 65 (0, 0)) := heap_setCell_same HG0.out 1 (.int .i64 o2)
  have kk2 : Kept (fun k => k = g) w1 (w1.setCell ⟨g, 1, none⟩ (.int .i64 o2)) := Kept.setCell (S := fun k => k = g) (p := ⟨g, 1, none⟩) (Kept.refl _ _) (fun _ => rfl) _
  clear b0 b1 b2 b3 b4 b5 b6 q1
  generalize w1.setCell ⟨g, 1, none⟩ (.int .i64 o2) = w2 at *
  obtain ⟨b0, b1, b2, b3, b4, b5, b6⟩ := blk7 g2
  have q4 := frozenB g2 4
  have HG2 := Lib.hid g2
  clear g2
  refine wp_plan 0 [1, 2, 3, 4, 5, 6, 7, 8, 9, 10, 11, 12, 13, 14, 15, 16, 17] 18 [] [] (by kernel_rfl) (by kernel_rfl) ?_
  simp only [wpPlan, pick, List.filterMap_cons, List.filterMap_nil, List.getElem?_cons_succ, List.getElem?_cons_zero]
  repeat (quiet_step (fail))
  refine wpQuiet_nil ?_
  rintro _ ⟨nr, rfl⟩
  go_wp2
  refine Halt.mk ?_
  have g3 : ((w2.drewN nr).setCell ⟨g, 4, none⟩ (.int .i64 f2)).heap[g]? = some (.cells #[.int .u64 s.id, .int .i64 o2, .int .u64 s.second, .int .i64 s.fork, .int .i64 f2, .int .i64 s.size, .slice ad1 m' m'] 65 (0, 0)) := heap_setCell_same (w := w2.drewN nr) HG2.out 4 (.int .i64 f2)
  have kk3 : Kept (fun k => k = g) w2 ((w2.drewN nr).setCell ⟨g, 4, none⟩ (.int .i64 f2)) := Kept.setCell (S := fun k => k = g) (p := ⟨g, 4, none⟩) ((Kept.refl _ _).drewN nr) (fun _ => rfl) _
  clear b0 b1 b2 b3 b4 b5 b6 q4
  generalize (w2.drewN nr).setCell ⟨g, 4, none⟩ (.int .i64 f2) = w3 at *
  obtain ⟨b0, b1, b2, b3, b4, b5, b6⟩ := blk7 g3
  have HG3 := Lib.hid g3
  clear g3
  obtain ⟨e', he'⟩ : ∃ e', e' = n - d := ⟨_, rfl⟩
  have hnd : n - d = e' := he'.symm
  obtain ⟨p', hp'⟩ : ∃ p', p' = o2 - e' := ⟨_, rfl⟩
  have heo : e' ≤ o2 := by have := HO2.out; omega
  have hp : (o2 : Int) - (e' : Int) = p' := by omega
  have hpl : p' ≤ 1125899906842624 := by omega
  obtain ⟨apk, hapk⟩ : ∃ a2, a2 = if cap = d then some ad0 else some (ad0.add d) := ⟨_, rfl⟩
  have hcd : (if cap = d then some ad0 else some (ad0.add d)) = apk := hapk.symm
  have HE := Lib.hid he'
  have HP := Lib.hid hp'
  have HA := Lib.hid hapk
  clear he' hp' hapk
  go_wp2_with fail
  have kk1 : Kept (fun k => k = g) w w3 := (Kept.trans (⟨hk1.os, hk1.tape, hk1.output, hk1.size, hk1.block⟩ : Kept (fun k => k = g) w w1) kk2).trans kk3
  have hR'' : R' = R ∨ ∃ r, R' = some r ∧ w.heap.size ≤ r := hR'
  have hX : Holds w3 apk e' ((b.drop d).map bv) := by
    have hn14 := HBL.out; have hn18 := HE.out
    refine ⟨by rw [List.length_map, List.length_drop]; omega, fun h => ⟨ad0.add d, by rw [HA.out, if_neg (by omega)], fun j v hj => ?_⟩⟩
    rw [List.map_drop, List.getElem?_drop] at hj
    obtain ⟨ad', e'', hc'⟩ := (hb.kept kk1 (fun _ h => by cases h; exact (haway (by omega)).1)).2 (by omega)
    cases e''
    rw [Addr.add_add]
    exact hc' _ _ hj
  have hblk : ∀ ad, apk = some ad → ad.block = ad0.block := by
    intro ad h
    rw [HA.out] at h
    split at h
    · cases h; rfl
    · cases h; unfold Addr.add; split <;> rfl
  have hdst : ∀ w4, w4.heap[g]? = w3.heap[g]? → (∀ r cs, ad1 = some ⟨r, 0, none⟩ → R' = some r → w3.heap[r]? = some (.cells cs 5 (0, 0)) → r ≠ g → cs.size = m' → 0 < m' → Ring bv cs 0 m' s.first s.L →
      ∃ cs', w4.heap[r]? = some (.cells cs' 5 (0, 0)) ∧ cs'.size = m' ∧ Ring bv cs' 0 m' (s.feed b).first (s.feed b).L) → (m' = 0 → n = 0) → Rg w4 g R' (s.feed b) := by
    intro w4 hg4 hring hm0
    have hn12 := HNN.out; have hn13 := HL.out; have hn14 := HBL.out; have hn15 := HO2.out; have hn16 := HF2.out; have hn20 := H1.out
    obtain ⟨ad1', j0, j1, j2, j3, j4, j5, j6, j7, j8⟩ := hMk
    have J8 := Lib.hid j8
    clear j8
    have hlen : (s.feed b).L.length = min (s.L.length + n) s.size := by simp only [RS.feed, List.length_drop, List.length_append]; omega
    refine ⟨ad1, m', ?_, ?_, by rw [hlen]; omega, k3', h4, h5, by show s.off + b.length ≤ _; omega, h7, ?_⟩
    · rw [hg4, HG3.out]
      simp only [RS.feed, hn14, hn15, hn16]
    · show s.off + b.length = (s.first + (s.L.length + b.length - s.size)) + (s.feed b).L.length
      rw [hlen]; omega
    · have hadd : ad1' = ad1 := by
        have := Option.some.inj (j0.symm.trans HG0.out)
        simpa using this
      subst hadd
      rcases J8.out with ⟨j8, j9, j10⟩ | ⟨r, cs, rfl, r2, r3, r4, r5, r6, r7⟩
      · exact .inl ⟨j8, j9, j10⟩
      · obtain ⟨cs', t1, t2, t3⟩ := hring r cs rfl r2 ((kk2.trans kk3).heap r4 r3) r3 r5 r6 r7
        exact .inr ⟨r, cs', rfl, r2, r3, t1, t2, r6, t3⟩
  have HDST := Lib.hid hdst
  clear hdst
  have hK4 : ∀ w4, Kept (fun k => R' = some k) w3 w4 → Kept (fun k => k = g ∨ R = some k) w w4 := by
    intro w4 hk
    refine (kk1.mono (fun _ _ h => .inl h)).trans' hk (fun i hi h => ?_)
    rcases hR'' with e | ⟨r, e, hr⟩
    · exact .inr (e ▸ h)
    · rw [e] at h; cases h; omega
  by_cases hn : n = 0
  · have e0 : e' = 0 := by have := HE.out; omega
    have hfin : Rg w3 g R' (s.feed b) := by
      refine HDST.out w3 rfl (fun r cs _ _ h4 _ h6 _ h8 => ⟨cs, h4, h6, ?_⟩) (fun _ => hn)
      have hn14 := HBL.out
      obtain rfl : b = [] := List.eq_nil_of_length_eq_zero (by omega)
      have hz : s.L.length - s.size = 0 := by omega
      have e1 : (s.feed []).first = s.first := by simp [RS.feed, hz]
      have e2 : (s.feed []).L = s.L := by simp [RS.feed, hz]
      rw [e1, e2]; exact h8
    have HFIN := Lib.hid hfin
    clear hfin
    subst e0
    refine (rlay0 g p' apk (cap - d) w3).mono ?_
    rintro e w4 ⟨rfl, rfl⟩
    clear hsub hnn' hw1 hw2 hx hwx hmx hy hmy hsum hw3 hnd hp hcd
    go_wp2
    go_ret
    exact ⟨rfl, R', hR'', HFIN.out, hK4 _ (Kept.refl _ _)⟩
  · obtain ⟨ad1', j0, j1, j2, j3, j4, j5, j6, j7, j8⟩ := hMk
    rcases j8 with ⟨j8, _⟩ | ⟨r, cs, rfl, r2, r3, r4, r5, r6, r7⟩
    · have := HNN.out; omega
    have r4' := (kk2.trans kk3).heap r4 r3
    have hadd : ad1 = some ⟨r, 0, none⟩ := by
      have := Option.some.inj (j0.symm.trans HG0.out)
      simpa using this.symm
    have hrR : ad0.block ≠ r := fun h => by
      rcases hR'' with e | ⟨r', e, hr⟩
      · exact (haway (by omega)).2 (by rw [← e, r2, h])
      · obtain ⟨ad', e2, hc⟩ := hb.2 (by omega)
        cases e2
        rw [e] at r2
        cases r2
        have hbl := cell_lt (hc 0 _ (List.getElem?_eq_getElem (by rw [hb.1]; omega)))
        have : (ad0.add 0).block = ad0.block := by unfold Addr.add; split <;> rfl
        omega
    have hsz := HDST.out
    refine (rlay g r m' p' cs apk e' (cap - d) ((b.drop d).map bv) w3 (by rw [← hadd]; exact b6) (fun h => r3 h.symm) r4' r5 r6 (by omega) hpl hX (by have := HE.out; have := HD.out; have := HNN.out; have := HL.out; omega) (by have := HE.out; omega) (bv_one _) (fun ad h => by rw [hblk ad h]; exact hrR)).mono ?_
    rintro e w4 ⟨rfl, hr4, hk4⟩
    have hfin : Rg w4 g R' (s.feed b) := by
      refine hsz w4 (hk4.block g (lt_of_heap HG3.out) (fun h => r3 h.symm)) (fun r' cs' e1 e2 e4 e5 e6 e7 e8 => ?_) (fun h => by omega)
      rw [r2] at e2; cases e2
      have : cs' = cs := by
        have := Option.some.inj (e4.symm.trans r4')
        simpa using this
      subst this
      refine ⟨_, hr4, ?_, ?_⟩
      · rw [List.size_toArray]; exact layL_length r6 (by rw [Array.length_toList]; exact r5) (by rw [List.length_map, List.length_drop]; have := HNN.out; have := HBL.out; have := HD.out; have := HL.out; omega)
      · have hn12 := HNN.out; have hn13 := HL.out; have hn14 := HBL.out; have hn15 := HO2.out; have hn17 := HD.out; have hn18 := HE.out; have hn19 := HP.out; have hn20 := H1.out
        have := feed_ring (s := s) (b := b) r7 r5 (by omega) k3' r6 hn20
        rw [show s.off + b.length - (b.length - (b.length - s.size)) = p' by omega, show b.length - s.size = d by omega] at this
        exact this
    have HFIN := Lib.hid hfin
    clear hfin hsub hnn' hw1 hw2 hx hwx hmx hy hmy hsum hw3 hnd hp hcd hsz hadd
    go_wp2
    go_ret
    exact ⟨rfl, R', hR'', HFIN.out, hK4 _ (hk4.mono (fun i _ h => by rw [r2, h]))⟩
end Go.Proofs.Ytlaahdjdlekopaa
