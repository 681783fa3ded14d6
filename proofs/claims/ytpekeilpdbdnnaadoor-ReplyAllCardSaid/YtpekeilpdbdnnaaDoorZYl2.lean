/- Merged: Are two replies the same, by the document; The law of all replies. -/
import Derived.Test.YtpekeilpdbdnnaaDoorZYc2
import Derived.Test.YtpekeilpdbdnnaaDoorZYz2
set_option linter.all false
namespace Go.Proofs.YtpekeilpdbdnnaaDoor
open Go.RowKit
attribute [local go_sem] fold_part fold_some fold_some' partAt_zero

theorem samesR_zip : ∀ (a b : List Rep), samesR a b = (decide (a.length = b.length) && (a.zip b).all fun p => sameR p.1 p.2)
  | [], [] => rfl
  | [], y :: b => by simp [samesR]
  | x :: a, [] => by simp [samesR]
  | x :: a, y :: b => by
    rw [samesR, samesR_zip a b, List.zip_cons_cons, List.all_cons, List.length_cons, List.length_cons]
    by_cases h : a.length = b.length
    · rw [decide_eq_true h, decide_eq_true (by omega)]; simp
    · rw [decide_eq_false h, decide_eq_false (by omega)]; simp
def sameM (p : RepM × RepM) : Bool := sameR p.1.rep p.2.rep
theorem same_eq (m m2 : RepM) : sameR m.rep m2.rep = (decide (m.k = m2.k) && decide (m.s = m2.s) && decide (m.n = m2.n) && (decide (m.l.length = m2.l.length) && (m.l.zip m2.l).all sameM)) := by
  rw [m.rep_eq, m2.rep_eq, sameR, samesR_zip, List.length_map, List.length_map, List.zip_map, List.all_map]
  rfl
theorem zip_at {α β : Type} {a : List α} {b : List β} {i : Nat} {x : α} {y : β} (h1 : a[i]? = some x) (h2 : b[i]? = some y) : (a.zip b)[i]? = some (x, y) := by
  rw [List.getElem?_zip_eq_some]
  exact ⟨h1, h2⟩
/-- The two boxes of a comparison. -/
def S2 (w : World) (m m2 : RepM) : World := (w.alloc (.cells #[.int .i64 m.k, strV m.s, .int .i64 m.n, m.v] 26)).alloc (.cells #[.int .i64 m2.k, strV m2.s, .int .i64 m2.n, m2.v] 26)
theorem S2_kept (w : World) (m m2 : RepM) : Kept NoBlock w (S2 w m m2) := ((Kept.refl NoBlock w).alloc _).alloc _
theorem S2_b0 (w : World) (m m2 : RepM) : (S2 w m m2).heap[w.heap.size]? = some (.cells #[.int .i64 m.k, strV m.s, .int .i64 m.n, m.v] 26 (0, 0)) := by
  unfold S2
  rw [heap_alloc_lt _ (by simp), heap_alloc_new]
theorem S2_b1 (w : World) (m m2 : RepM) : (S2 w m m2).heap[w.heap.size + 1]? = some (.cells #[.int .i64 m2.k, strV m2.s, .int .i64 m2.n, m2.v] 26 (0, 0)) := by
  have := heap_alloc_new (w.alloc (.cells #[.int .i64 m.k, strV m.s, .int .i64 m.n, m.v] 26)) (.cells #[.int .i64 m2.k, strV m2.s, .int .i64 m2.n, m2.v] 26)
  rw [World.size_alloc] at this
  exact this
theorem str_ne {S T : ByteArray} {s t : Bs} (hS : S = ⟨s.toArray⟩) (hT : T = ⟨t.toArray⟩) (h : ¬ s = t) : (S.toList == T.toList) = false := by
  rw [Go.ByteArray.toList_eq, Go.ByteArray.toList_eq, hS, hT]
  simpa using h

def RS (m : RepM) : Prop := ∀ (m2 : RepM) (P P2 : Nat → Prop) (w : World), GoodM w P m → GoodM w P2 m2 → FitM m → FitM m2 →
  Calls Tryd.prog 11 #[repA m, repA m2] w fun e w' => e = .returned (.bool (sameR m.rep m2.rep)) ∧ Kept NoBlock w w'

set_option maxRecDepth 100000 in
set_option maxHeartbeats 3200000 in
theorem rsame_step (m : RepM) (ih : ∀ x ∈ m.l, RS x) : RS m := by
  intro m2 P P2 w hg hg2 hf hf2
  rw [same_eq]
  obtain ⟨ap, cap, hv, hcp, _⟩ := hg.row.parts
  obtain ⟨ap2, cap2, hv2, hcp2, _⟩ := hg2.row.parts
  have hl1 := hf.l
  have hl2 := hf2.l
  have hs1 := hf.s
  have hs2 := hf2.s
  obtain ⟨S, hS⟩ : ∃ S : ByteArray, S = ⟨m.s.toArray⟩ := ⟨_, rfl⟩
  obtain ⟨T, hT⟩ : ∃ S : ByteArray, S = ⟨m2.s.toArray⟩ := ⟨_, rfl⟩
  have HB0 := Lib.hid (S2_b0 w m m2)
  have HB1 := Lib.hid (S2_b1 w m m2)
  have HK := Lib.hid (S2_kept w m m2)
  obtain ⟨N, hN⟩ : ∃ N, N = m.l.length := ⟨_, rfl⟩
  obtain ⟨N2, hN2⟩ : ∃ N, N = m2.l.length := ⟨_, rfl⟩
  rw [← hN] at hv hcp hl1 ⊢
  rw [← hN2] at hv2 hcp2 hl2 ⊢
  have HG := Lib.hid hg
  have HG2 := Lib.hid hg2
  have HF := Lib.hid hf
  have HF2 := Lib.hid hf2
  have HIH := Lib.hid ih
  have HN := Lib.hid hN
  have HN2 := Lib.hid hN2
  have HV := Lib.hid hv
  have HV2 := Lib.hid hv2
  clear ih hg hg2 hf hf2 hN hN2
  unfold S2 at HB0 HB1 HK
  unfold repA
  rw [hv, hv2]
  unfold strV
  rw [← hS, ← hT]
  rw [hv, hv2] at HB0 HB1 HK
  unfold strV at HB0 HB1 HK
  rw [← hS, ← hT] at HB0 HB1 HK
  clear hv hv2
  by_cases hk : m.k = m2.k
  · rw [decide_eq_true hk, Bool.true_and]
    rw [hk] at HB0 HB1 HK ⊢
    by_cases hs : m.s = m2.s
    · rw [decide_eq_true hs, Bool.true_and]
      obtain rfl : S = T := by rw [hS, hT, hs]
      by_cases hn : m.n = m2.n
      · rw [decide_eq_true hn, Bool.true_and]
        rw [hn] at HB0 HB1 HK ⊢
        by_cases hl : N = N2
        · rw [decide_eq_true hl, Bool.true_and]
          subst hl
          generalize hM : (m.l.zip m2.l).all sameM = M
          have HM := Lib.hid hM
          clear hM hk hs hn hS hT hs1 hs2
          go_enter Tryd.func11, Tryd.ntmps11
          go_wp2_with fail
          go_loopw [5] (fun vi wr => ∃ i : Nat, vi = .int .i64 i ∧ i ≤ N ∧ ((m.l.zip m2.l).take i).all sameM = true ∧ Kept NoBlock ((w.alloc (.cells #[.int .i64 m2.k, .string S, .int .i64 m2.n, .slice ap N cap] 26)).alloc (.cells #[.int .i64 m2.k, .string S, .int .i64 m2.n, .slice ap2 N cap2] 26)) wr) (fun vi _ => N - (intOf vi).toNat)
          case atStart => exact ⟨0, rfl, Nat.zero_le _, rfl, Kept.refl _ _⟩
          case round =>
            obtain ⟨i, rfl, hi, hr, hk⟩ := hrel
            have HR := Lib.hid hr
            have HKW := Lib.hid hk
            obtain ⟨b0, b1, b2, b3⟩ := blk4 (hk.heap HB0.out (fun h => h))
            obtain ⟨d0, d1, d2, d3⟩ := blk4 (hk.heap HB1.out (fun h => h))
            clear hr hk
            by_cases hlt : i < N
            · obtain ⟨x, hx⟩ : ∃ x, m.l[i]? = some x := ⟨m.l[i]'(by have := HN.out; omega), List.getElem?_eq_getElem _⟩
              obtain ⟨y, hy⟩ : ∃ x, m2.l[i]? = some x := ⟨m2.l[i]'(by have := HN2.out; omega), List.getElem?_eq_getElem _⟩
              have hxm := List.mem_of_getElem? hx
              have hym := List.mem_of_getElem? hy
              have hkw := HK.out.trans HKW.out
              have hrow := HG.out.row.kept hkw
              have hrow2 := HG2.out.row.kept hkw
              rw [HV.out] at hrow
              rw [HV2.out] at hrow2
              obtain ⟨ad, rfl, a0, a1, a2, a3⟩ := rep_at hrow hx
              obtain ⟨ad2, rfl, c0, c1, c2, c3⟩ := rep_at hrow2 hy
              have hz := zip_at hx hy
              have hcall := fun w' (hk' : Kept NoBlock wr w') => HIH.out x hxm y P P2 w' ((HG.out.subs x hxm).keptN (hkw.trans hk')) ((HG2.out.subs y hym).keptN (hkw.trans hk')) (HF.out.subs x hxm) (HF2.out.subs y hym)
              have HCALL := Lib.hid hcall
              have HZ := Lib.hid hz
              have HKK := Lib.hid hkw
              clear hx hy hxm hym hkw hrow hrow2 hz hcall
              unfold repA at HCALL
              go_wp2_with fail
              refine wp_planC (fun _ => True) 12 [.seg [0, 1, 2, 3, 4, 5, 6, 7, 8, 9] 10] [11] (by kernel_rfl) (by kernel_rfl) (fun _ _ _ dst _ h => by cases dst <;> exact h) (fun _ _ h => h) trivial (fun n0 => ?_)
              simp only [wpPlanC, pick, List.filterMap_cons, List.filterMap_nil, List.getElem?_cons_succ, List.getElem?_cons_zero]
              repeat (quiet_step (fail))
              refine wpQuiet_nil ?_
              rintro _ ⟨n1, rfl⟩
              clear a0 a1 a2 a3 c0 c1 c2 c3 b0 b1 b2 b3 d0 d1 d2 d3
              have HC2 := Lib.hid (HCALL.out (wr.drewN (n0 + n1)) ((Kept.refl NoBlock wr).drewN _))
              have HKN := Lib.hid (HKW.out.drewN (n0 + n1))
              go_wp2_with fail
              generalize wr.drewN (n0 + n1) = wn at *
              refine HC2.out.mono ?_
              rintro e w3 ⟨rfl, hk3⟩
              have HK3 := Lib.hid (HKN.out.trans hk3)
              clear hk3 HC2 HKN
              cases hsm : sameR x.rep y.rep with
              | true =>
                have HR3 := Lib.hid (all_next HR.out HZ.out (show sameM (x, y) = true from hsm))
                clear hsm
                go_wp2_with fail
                refine Halt.mk ⟨.inr trivial, ?_⟩
                repeat (quiet_step (fail))
                refine wpQuiet_nil ?_
                rintro _ ⟨n2, rfl⟩
                have HK4 := Lib.hid (HK3.out.drewN n2)
                generalize w3.drewN n2 = w4 at *
                go_wp2_with fail
                go_roundw
                case rel => exact ⟨i + 1, by go_num, by omega, HR3.out, HK4.out⟩
                case measure => simp [intOf]; omega
              | false =>
                have hfin : M = false := by rw [← HM.out]; exact all_not HZ.out (show sameM (x, y) = false from hsm)
                subst hfin
                clear hsm
                go_wp2_with fail
                refine Halt.mk ⟨.inr trivial, ?_⟩
                repeat (quiet_step (fail))
                refine wpQuiet_nil ?_
                rintro _ ⟨n2, rfl⟩
                have HK4 := Lib.hid (HK3.out.drewN n2)
                generalize w3.drewN n2 = w4 at *
                go_wp2_with fail
                go_ret
                exact ⟨rfl, HK.out.trans HK4.out⟩
            · have hfin : M = true := by
                rw [← HM.out]
                have := HR.out
                rw [List.take_of_length_le (by rw [List.length_zip]; have := HN.out; have := HN2.out; omega)] at this
                exact this
              subst hfin
              go_wp2_with fail
              go_ret
              exact ⟨rfl, HK.out.trans HKW.out⟩
        · rw [decide_eq_false hl, Bool.false_and]
          have hlI : ¬ ((N : Int) = (N2 : Int)) := by omega
          clear hk hs hn hS hT hs1 hs2
          go_enter Tryd.func11, Tryd.ntmps11
          go_wp2_with fail
          go_ret
          exact ⟨rfl, HK.out⟩
      · rw [decide_eq_false hn, Bool.false_and]
        clear hk hs hS hT hs1 hs2
        go_enter Tryd.func11, Tryd.ntmps11
        go_wp2_with fail
        go_ret
        exact ⟨rfl, HK.out⟩
    · rw [decide_eq_false hs, Bool.false_and, Bool.false_and]
      have hne := str_ne hS hT hs
      clear hk hs hS hT hs1 hs2
      go_enter Tryd.func11, Tryd.ntmps11
      go_wp2_with fail
      go_ret
      exact ⟨rfl, HK.out⟩
  · rw [decide_eq_false hk, Bool.false_and, Bool.false_and, Bool.false_and]
    clear hS hT hs1 hs2
    go_enter Tryd.func11, Tryd.ntmps11
    go_wp2_with fail
    go_ret
    exact ⟨rfl, HK.out⟩
theorem rSame : ∀ m, RS m := RepM.ind rsame_step
theorem sameR_refl (m : RepM) : sameR m.rep m.rep = true := by
  refine RepM.ind (C := fun m => sameR m.rep m.rep = true) (fun m ih => ?_) m
  rw [same_eq]
  simp only [decide_true, Bool.true_and]
  rw [List.all_eq_true]
  intro p hp
  obtain ⟨i, hi⟩ := List.mem_iff_getElem?.1 hp
  rw [List.getElem?_zip_eq_some] at hi
  obtain ⟨h1, h2⟩ := hi
  rw [h1] at h2
  obtain ⟨x, y⟩ := p
  simp only at h1 h2
  obtain rfl := Option.some.inj h2
  exact ih x (List.mem_of_getElem? h1)
end Go.Proofs.YtpekeilpdbdnnaaDoor
namespace Go.Proofs.YtpekeilpdbdnnaaDoor
open Go.RowKit
attribute [local go_sem] fold_part fold_some fold_some' partAt_zero

theorem reps_at {a b : List RepM} (h : a.map RepM.rep = b.map RepM.rep) {i : Nat} {x y : RepM} (hx : a[i]? = some x) (hy : b[i]? = some y) : y.rep = x.rep := by
  have h1 : (a.map RepM.rep)[i]? = some x.rep := by rw [List.getElem?_map, hx]; rfl
  have h2 : (b.map RepM.rep)[i]? = some y.rep := by rw [List.getElem?_map, hy]; rfl
  rw [h, h2] at h1
  exact Option.some.inj h1
theorem reps_len {a b : List RepM} (h : a.map RepM.rep = b.map RepM.rep) : a.length = b.length := by
  have := congrArg List.length h
  rwa [List.length_map, List.length_map] at this

set_option maxRecDepth 100000 in
set_option maxHeartbeats 3200000 in
theorem law_all (b : Nat) (ap : Option Addr) (n cap : Nat) (l : Bs) (w : World) (hV : VsB w b) (h : BytesV w (.slice ap n cap) l) (hlt : ∀ j, vblk (.slice ap n cap) = some j → j < w.heap.size) :
    Calls Tryd.prog 7 #[.slice ap n cap] w fun e w' => e = .returned (.bool true) ∧ Kept NoBlock w w' := by
  have hV0 := fun w' hk => palive b w' (hV.kept (w := w) (w' := w') hk)
  have hln := RowV.holds h
  rw [List.length_map] at hln
  have HAL := Lib.hid hV0
  by_cases hlong : 70000 < n
  · have hf := BytesV.front h 70000 (by omega)
    have hll : (l.take 70000).length ≤ 100000000 := by rw [List.length_take]; omega
    have hl7 : (l.take 70000).length ≤ 70000 := by rw [List.length_take]; omega
    have hlt2 : ∀ j, vblk (.slice ap 70000 cap) = some j → j < w.heap.size := fun j e => hlt j (by rw [vblk_slice] at e ⊢; exact e)
    have h1 := pAll _ (l.take 70000) w hf hll hlt2
    have h2 := fun w' (hk : Kept NoBlock w w') => rAll _ (l.take 70000) w' (hf.keptNo hk) hll (fun j e => Nat.lt_of_lt_of_le (hlt2 j e) hk.size)
    unfold AllEnd at h1 h2
    generalize allB (l.take 70000) = A at h1 h2
    generalize (l.take 70000).length = LL at *
    obtain ⟨Rs, p, c⟩ := A
    have H1 := Lib.hid h1
    have H2 := Lib.hid h2
    have HL7 := Lib.hid hl7
    have hc : 70000 ≤ cap := by omega
    clear hV hV0 h hf hll hlt hlt2 hln h1 h2 hl7
    go_enter Tryd.func7, Tryd.ntmps7
    go_wp2_with fail
    refine H1.out.mono ?_
    rintro e w2 ⟨hk2, v1, ms, rfl, hr1, hrow1, hg1, hlen1⟩
    obtain ⟨ap1, cap1, rfl, hcp1, _⟩ := hrow1.parts
    have HK2 := Lib.hid hk2
    have HROW1 := Lib.hid hrow1
    have HG1 := Lib.hid hg1
    have HD2 := Lib.hid (H2.out _ hk2)
    have HR1 := Lib.hid hr1
    obtain ⟨N, hN⟩ : ∃ N, N = ms.length := ⟨_, rfl⟩
    rw [← hN] at hcp1 HROW1 hlen1 ⊢
    have hN7 : N ≤ 70000 := by have := HL7.out; omega
    have HN := Lib.hid hN
    clear hk2 hrow1 hg1 hr1 hlen1 hN
    go_wp2_with fail
    refine HD2.out.mono ?_
    rintro e w4 ⟨hk4, v2, ms2, rfl, hr2, hrow2, hg2, hlen2⟩
    obtain ⟨ap2, cap2, rfl, hcp2, _⟩ := hrow2.parts
    have hreps : ms.map RepM.rep = ms2.map RepM.rep := by rw [hr2]; exact HR1.out
    rw [show ms2.length = N by rw [HN.out]; exact (reps_len hreps).symm] at hcp2 hrow2 ⊢
    have HREPS := Lib.hid hreps
    have HROW1' := Lib.hid (HROW1.out.kept hk4)
    have HG1' := Lib.hid (fun m hm => (⟨(HG1.out m hm).1.keptN hk4, (HG1.out m hm).2⟩ : GoodM w4 AnyB m ∧ FitM m))
    have HROW2 := Lib.hid hrow2
    have HG2 := Lib.hid hg2
    have HK4 := Lib.hid (HK2.out.trans hk4)
    have HN2 := Lib.hid (show N = ms2.length by rw [HN.out]; exact reps_len hreps)
    clear hk4 hr2 hrow2 hg2 hlen2 hreps HROW1 HG1 HR1
    go_wp2_with fail
    go_loopw [9] (fun vi wr => ∃ i : Nat, vi = .int .i64 i ∧ i ≤ N ∧ Kept NoBlock w4 wr) (fun vi _ => N - (intOf vi).toNat)
    case atStart => exact ⟨0, rfl, Nat.zero_le _, Kept.refl _ _⟩
    case round =>
      obtain ⟨i, rfl, hi, hk⟩ := hrel
      have HKW := Lib.hid hk
      clear hk
      by_cases hlt : i < N
      · obtain ⟨x, hx⟩ : ∃ x, ms[i]? = some x := ⟨ms[i]'(by have := HN.out; omega), List.getElem?_eq_getElem _⟩
        obtain ⟨y, hy⟩ : ∃ x, ms2[i]? = some x := ⟨ms2[i]'(by have := HN2.out; omega), List.getElem?_eq_getElem _⟩
        have hxm := List.mem_of_getElem? hx
        have hym := List.mem_of_getElem? hy
        have hkw := HKW.out
        have hro1 := HROW1'.out.kept hkw
        have hro2 := HROW2.out.kept hkw
        obtain ⟨ad, rfl, a0, a1, a2, a3⟩ := rep_at hro1 hx
        obtain ⟨ad2, rfl, c0, c1, c2, c3⟩ := rep_at hro2 hy
        have hcall := fun w' (hk' : Kept NoBlock wr w') => rSame x y AnyB AnyB w' ((HG1'.out x hxm).1.keptN (hkw.trans hk')) ((HG2.out y hym).1.keptN (hkw.trans hk')) (HG1'.out x hxm).2 (HG2.out y hym).2
        rw [reps_at HREPS.out hx hy, sameR_refl] at hcall
        have HCALL := Lib.hid hcall
        clear hx hy hxm hym hkw hro1 hro2 hcall
        unfold repA at HCALL
        go_wp2_with fail
        refine wp_planC (fun _ => True) 10 [.seg [0, 1, 2, 3, 4, 5, 6, 7] 8] [9] (by kernel_rfl) (by kernel_rfl) (fun _ _ _ dst _ h => by cases dst <;> exact h) (fun _ _ h => h) trivial (fun n0 => ?_)
        simp only [wpPlanC, pick, List.filterMap_cons, List.filterMap_nil, List.getElem?_cons_succ, List.getElem?_cons_zero]
        repeat (quiet_step (fail))
        refine wpQuiet_nil ?_
        rintro _ ⟨n1, rfl⟩
        clear a0 a1 a2 a3 c0 c1 c2 c3
        have HC2 := Lib.hid (HCALL.out (wr.drewN (n0 + n1)) ((Kept.refl NoBlock wr).drewN _))
        have HKN := Lib.hid (HKW.out.drewN (n0 + n1))
        go_wp2_with fail
        generalize wr.drewN (n0 + n1) = wn at *
        refine HC2.out.mono ?_
        rintro e w3 ⟨rfl, hk3⟩
        have HK3 := Lib.hid (HKN.out.trans hk3)
        clear hk3 HC2 HKN
        go_wp2_with fail
        refine Halt.mk ⟨.inr trivial, ?_⟩
        repeat (quiet_step (fail))
        refine wpQuiet_nil ?_
        rintro _ ⟨n2, rfl⟩
        have HK9 := Lib.hid (HK3.out.drewN n2)
        generalize w3.drewN n2 = w9 at *
        go_wp2_with fail
        go_roundw
        case rel => exact ⟨i + 1, by go_num, by omega, HK9.out⟩
        case measure => simp [intOf]; omega
      · have HK6 := Lib.hid (HK4.out.trans HKW.out)
        have HA := Lib.hid (HAL.out wr HK6.out)
        go_wp2_with fail
        refine HA.out.mono ?_
        rintro e w7 ⟨rfl, hk7⟩
        have HK7 := Lib.hid (HK6.out.trans hk7)
        clear hk7
        go_wp2_with fail
        go_ret
        exact ⟨rfl, HK7.out⟩
  · have hll : l.length ≤ 100000000 := by omega
    have h1 := pAll _ l w h hll hlt
    have h2 := fun w' (hk : Kept NoBlock w w') => rAll _ l w' (h.keptNo hk) hll (fun j e => Nat.lt_of_lt_of_le (hlt j e) hk.size)
    have hl7 : l.length ≤ 70000 := by omega
    unfold AllEnd at h1 h2
    generalize allB l = A at h1 h2
    clear h
    generalize l.length = LL at *
    obtain ⟨Rs, p, c⟩ := A
    have H1 := Lib.hid h1
    have H2 := Lib.hid h2
    have HL7 := Lib.hid hl7
    clear hV hV0 hll hlt hln h1 h2 hl7
    go_enter Tryd.func7, Tryd.ntmps7
    go_wp2_with fail
    refine H1.out.mono ?_
    rintro e w2 ⟨hk2, v1, ms, rfl, hr1, hrow1, hg1, hlen1⟩
    obtain ⟨ap1, cap1, rfl, hcp1, _⟩ := hrow1.parts
    have HK2 := Lib.hid hk2
    have HROW1 := Lib.hid hrow1
    have HG1 := Lib.hid hg1
    have HD2 := Lib.hid (H2.out _ hk2)
    have HR1 := Lib.hid hr1
    obtain ⟨N, hN⟩ : ∃ N, N = ms.length := ⟨_, rfl⟩
    rw [← hN] at hcp1 HROW1 hlen1 ⊢
    have hN7 : N ≤ 70000 := by have := HL7.out; omega
    have HN := Lib.hid hN
    clear hk2 hrow1 hg1 hr1 hlen1 hN
    go_wp2_with fail
    refine HD2.out.mono ?_
    rintro e w4 ⟨hk4, v2, ms2, rfl, hr2, hrow2, hg2, hlen2⟩
    obtain ⟨ap2, cap2, rfl, hcp2, _⟩ := hrow2.parts
    have hreps : ms.map RepM.rep = ms2.map RepM.rep := by rw [hr2]; exact HR1.out
    rw [show ms2.length = N by rw [HN.out]; exact (reps_len hreps).symm] at hcp2 hrow2 ⊢
    have HREPS := Lib.hid hreps
    have HROW1' := Lib.hid (HROW1.out.kept hk4)
    have HG1' := Lib.hid (fun m hm => (⟨(HG1.out m hm).1.keptN hk4, (HG1.out m hm).2⟩ : GoodM w4 AnyB m ∧ FitM m))
    have HROW2 := Lib.hid hrow2
    have HG2 := Lib.hid hg2
    have HK4 := Lib.hid (HK2.out.trans hk4)
    have HN2 := Lib.hid (show N = ms2.length by rw [HN.out]; exact reps_len hreps)
    clear hk4 hr2 hrow2 hg2 hlen2 hreps HROW1 HG1 HR1
    go_wp2_with fail
    go_loopw [9] (fun vi wr => ∃ i : Nat, vi = .int .i64 i ∧ i ≤ N ∧ Kept NoBlock w4 wr) (fun vi _ => N - (intOf vi).toNat)
    case atStart => exact ⟨0, rfl, Nat.zero_le _, Kept.refl _ _⟩
    case round =>
      obtain ⟨i, rfl, hi, hk⟩ := hrel
      have HKW := Lib.hid hk
      clear hk
      by_cases hlt : i < N
      · obtain ⟨x, hx⟩ : ∃ x, ms[i]? = some x := ⟨ms[i]'(by have := HN.out; omega), List.getElem?_eq_getElem _⟩
        obtain ⟨y, hy⟩ : ∃ x, ms2[i]? = some x := ⟨ms2[i]'(by have := HN2.out; omega), List.getElem?_eq_getElem _⟩
        have hxm := List.mem_of_getElem? hx
        have hym := List.mem_of_getElem? hy
        have hkw := HKW.out
        have hro1 := HROW1'.out.kept hkw
        have hro2 := HROW2.out.kept hkw
        obtain ⟨ad, rfl, a0, a1, a2, a3⟩ := rep_at hro1 hx
        obtain ⟨ad2, rfl, c0, c1, c2, c3⟩ := rep_at hro2 hy
        have hcall := fun w' (hk' : Kept NoBlock wr w') => rSame x y AnyB AnyB w' ((HG1'.out x hxm).1.keptN (hkw.trans hk')) ((HG2.out y hym).1.keptN (hkw.trans hk')) (HG1'.out x hxm).2 (HG2.out y hym).2
        rw [reps_at HREPS.out hx hy, sameR_refl] at hcall
        have HCALL := Lib.hid hcall
        clear hx hy hxm hym hkw hro1 hro2 hcall
        unfold repA at HCALL
        go_wp2_with fail
        refine wp_planC (fun _ => True) 10 [.seg [0, 1, 2, 3, 4, 5, 6, 7] 8] [9] (by kernel_rfl) (by kernel_rfl) (fun _ _ _ dst _ h => by cases dst <;> exact h) (fun _ _ h => h) trivial (fun n0 => ?_)
        simp only [wpPlanC, pick, List.filterMap_cons, List.filterMap_nil, List.getElem?_cons_succ, List.getElem?_cons_zero]
        repeat (quiet_step (fail))
        refine wpQuiet_nil ?_
        rintro _ ⟨n1, rfl⟩
        clear a0 a1 a2 a3 c0 c1 c2 c3
        have HC2 := Lib.hid (HCALL.out (wr.drewN (n0 + n1)) ((Kept.refl NoBlock wr).drewN _))
        have HKN := Lib.hid (HKW.out.drewN (n0 + n1))
        go_wp2_with fail
        generalize wr.drewN (n0 + n1) = wn at *
        refine HC2.out.mono ?_
        rintro e w3 ⟨rfl, hk3⟩
        have HK3 := Lib.hid (HKN.out.trans hk3)
        clear hk3 HC2 HKN
        go_wp2_with fail
        refine Halt.mk ⟨.inr trivial, ?_⟩
        repeat (quiet_step (fail))
        refine wpQuiet_nil ?_
        rintro _ ⟨n2, rfl⟩
        have HK9 := Lib.hid (HK3.out.drewN n2)
        generalize w3.drewN n2 = w9 at *
        go_wp2_with fail
        go_roundw
        case rel => exact ⟨i + 1, by go_num, by omega, HK9.out⟩
        case measure => simp [intOf]; omega
      · have HK6 := Lib.hid (HK4.out.trans HKW.out)
        have HA := Lib.hid (HAL.out wr HK6.out)
        go_wp2_with fail
        refine HA.out.mono ?_
        rintro e w7 ⟨rfl, hk7⟩
        have HK7 := Lib.hid (HK6.out.trans hk7)
        clear hk7
        go_wp2_with fail
        go_ret
        exact ⟨rfl, HK7.out⟩
end Go.Proofs.YtpekeilpdbdnnaaDoor
