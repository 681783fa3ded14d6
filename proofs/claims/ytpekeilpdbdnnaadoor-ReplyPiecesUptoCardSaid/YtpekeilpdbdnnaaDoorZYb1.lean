/- Merged: Are two replies the same, by the document; The law of there and back. -/
import Derived.Test.YtpekeilpdbdnnaaDoorZYc2
import Derived.Test.YtpekeilpdbdnnaaDoorZYq8
set_option linter.all false
namespace Go.Proofs.YtpekeilpdbdnnaaDoor
open Go.RowKit
attribute [local go_sem] fold_part fold_some fold_some' partAt_zero

theorem samesR_zip : ∀ (a b : List Rep), samesR a b = (decide (a.length = b.length) && (a.zip b).all fun p => sameR p.1 p.2)
  | [], [] => rfl
  | [], y :: b => by simp [samesR]
  | x :: a, [] => by simp [samesR]
  | x :: a, y :: b => by
    rw [samesR, samesR_zip a b, List.zip_cons_cons, List.all_cons, List.length_cons, List.length_cons]
    by_cases h : a.length = b.length
    · rw [decide_eq_true h, decide_eq_true (by omega)]; simp
    · rw [decide_eq_false h, decide_eq_false (by omega)]; simp
def sameM (p : RepM × RepM) : Bool := sameR p.1.rep p.2.rep
theorem same_eq (m m2 : RepM) : sameR m.rep m2.rep = (decide (m.k = m2.k) && decide (m.s = m2.s) && decide (m.n = m2.n) && (decide (m.l.length = m2.l.length) && (m.l.zip m2.l).all sameM)) := by
  rw [m.rep_eq, m2.rep_eq, sameR, samesR_zip, List.length_map, List.length_map, List.zip_map, List.all_map]
  rfl
theorem zip_at {α β : Type} {a : List α} {b : List β} {i : Nat} {x : α} {y : β} (h1 : a[i]? = some x) (h2 : b[i]? = some y) : (a.zip b)[i]? = some (x, y) := by
  rw [List.getElem?_zip_eq_some]
  exact ⟨h1, h2⟩
/-- The two boxes of a comparison. -/
def S2 (w : World) (m m2 : RepM) : World := (w.alloc (.cells #[.int .i64 m.k, strV m.s, .int .i64 m.n, m.v] 26)).alloc (.cells #[.int .i64 m2.k, strV m2.s, .int .i64 m2.n, m2.v] 26)
theorem S2_kept (w : World) (m m2 : RepM) : Kept NoBlock w (S2 w m m2) := ((Kept.refl NoBlock w).alloc _).alloc _
theorem S2_b0 (w : World) (m m2 : RepM) : (S2 w m m2).heap[w.heap.size]? = some (.cells #[.int .i64 m.k, strV m.s, .int .i64 m.n, m.v] 26 (0, 0)) := by
  unfold S2
  rw [heap_alloc_lt _ (by simp), heap_alloc_new]
theorem S2_b1 (w : World) (m m2 : RepM) : (S2 w m m2).heap[w.heap.size + 1]? = some (.cells #[.int .i64 m2.k, strV m2.s, .int .i64 m2.n, m2.v] 26 (0, 0)) := by
  have := heap_alloc_new (w.alloc (.cells #[.int .i64 m.k, strV m.s, .int .i64 m.n, m.v] 26)) (.cells #[.int .i64 m2.k, strV m2.s, .int .i64 m2.n, m2.v] 26)
  rw [World.size_alloc] at this
  exact this
theorem str_ne {S T : ByteArray} {s t : Bs} (hS : S = ⟨s.toArray⟩) (hT : T = ⟨t.toArray⟩) (h : ¬ s = t) : (S.toList == T.toList) = false := by
  rw [Go.ByteArray.toList_eq, Go.ByteArray.toList_eq, hS, hT]
  simpa using h

def RS (m : RepM) : Prop := ∀ (m2 : RepM) (P P2 : Nat → Prop) (w : World), GoodM w P m → GoodM w P2 m2 → FitM m → FitM m2 →
  Calls Tryd.prog 11 #[repA m, repA m2] w fun e w' => e = .returned (.bool (sameR m.rep m2.rep)) ∧ Kept NoBlock w w'

set_option maxRecDepth 100000 in
set_option maxHeartbeats 3200000 in
theorem rsame_step (m : RepM) (ih : ∀ x ∈ m.l, RS x) : RS m := by
  intro m2 P P2 w hg hg2 hf hf2
  rw [same_eq]
  obtain ⟨ap, cap, hv, hcp, _⟩ := hg.row.parts
  obtain ⟨ap2, cap2, hv2, hcp2, _⟩ := hg2.row.parts
  have hl1 := hf.l
  have hl2 := hf2.l
  have hs1 := hf.s
  have hs2 := hf2.s
  obtain ⟨S, hS⟩ : ∃ S : ByteArray, S = ⟨m.s.toArray⟩ := ⟨_, rfl⟩
  obtain ⟨T, hT⟩ : ∃ S : ByteArray, S = ⟨m2.s.toArray⟩ := ⟨_, rfl⟩
  have HB0 := Lib.hid (S2_b0 w m m2)
  have HB1 := Lib.hid (S2_b1 w m m2)
  have HK := Lib.hid (S2_kept w m m2)
  obtain ⟨N, hN⟩ : ∃ N, N = m.l.length := ⟨_, rfl⟩
  obtain ⟨N2, hN2⟩ : ∃ N, N = m2.l.length := ⟨_, rfl⟩
  rw [← hN] at hv hcp hl1 ⊢
  rw [← hN2] at hv2 hcp2 hl2 ⊢
  have HG := Lib.hid hg
  have HG2 := Lib.hid hg2
  have HF := Lib.hid hf
  have HF2 := Lib.hid hf2
  have HIH := Lib.hid ih
  have HN := Lib.hid hN
  have HN2 := Lib.hid hN2
  have HV := Lib.hid hv
  have HV2 := Lib.hid hv2
  clear ih hg hg2 hf hf2 hN hN2
  unfold S2 at HB0 HB1 HK
  unfold repA
  rw [hv, hv2]
  unfold strV
  rw [← hS, ← hT]
  rw [hv, hv2] at HB0 HB1 HK
  unfold strV at HB0 HB1 HK
  rw [← hS, ← hT] at HB0 HB1 HK
  clear hv hv2
  by_cases hk : m.k = m2.k
  · rw [decide_eq_true hk, Bool.true_and]
    rw [hk] at HB0 HB1 HK ⊢
    by_cases hs : m.s = m2.s
    · rw [decide_eq_true hs, Bool.true_and]
      obtain rfl : S = T := by rw [hS, hT, hs]
      by_cases hn : m.n = m2.n
      · rw [decide_eq_true hn, Bool.true_and]
        rw [hn] at HB0 HB1 HK ⊢
        by_cases hl : N = N2
        · rw [decide_eq_true hl, Bool.true_and]
          subst hl
          generalize hM : (m.l.zip m2.l).all sameM = M
          have HM := Lib.hid hM
          clear hM hk hs hn hS hT hs1 hs2
          go_enter Tryd.func11, Tryd.ntmps11
          go_wp2_with fail
          go_loopw [5] (fun vi wr => ∃ i : Nat, vi = .int .i64 i ∧ i ≤ N ∧ ((m.l.zip m2.l).take i).all sameM = true ∧ Kept NoBlock ((w.alloc (.cells #[.int .i64 m2.k, .string S, .int .i64 m2.n, .slice ap N cap] 26)).alloc (.cells #[.int .i64 m2.k, .string S, .int .i64 m2.n, .slice ap2 N cap2] 26)) wr) (fun vi _ => N - (intOf vi).toNat)
          case atStart => exact ⟨0, rfl, Nat.zero_le _, rfl, Kept.refl _ _⟩
          case round =>
            obtain ⟨i, rfl, hi, hr, hk⟩ := hrel
            have HR := Lib.hid hr
            have HKW := Lib.hid hk
            obtain ⟨b0, b1, b2, b3⟩ := blk4 (hk.heap HB0.out (fun h => h))
            obtain ⟨d0, d1, d2, d3⟩ := blk4 (hk.heap HB1.out (fun h => h))
            clear hr hk
            by_cases hlt : i < N
            · obtain ⟨x, hx⟩ : ∃ x, m.l[i]? = some x := ⟨m.l[i]'(by have := HN.out; omega), List.getElem?_eq_getElem _⟩
              obtain ⟨y, hy⟩ : ∃ x, m2.l[i]? = some x := ⟨m2.l[i]'(by have := HN2.out; omega), List.getElem?_eq_getElem _⟩
              have hxm := List.mem_of_getElem? hx
              have hym := List.mem_of_getElem? hy
              have hkw := HK.out.trans HKW.out
              have hrow := HG.out.row.kept hkw
              have hrow2 := HG2.out.row.kept hkw
              rw [HV.out] at hrow
              rw [HV2.out] at hrow2
              obtain ⟨ad, rfl, a0, a1, a2, a3⟩ := rep_at hrow hx
              obtain ⟨ad2, rfl, c0, c1, c2, c3⟩ := rep_at hrow2 hy
              have hz := zip_at hx hy
              have hcall := fun w' (hk' : Kept NoBlock wr w') => HIH.out x hxm y P P2 w' ((HG.out.subs x hxm).keptN (hkw.trans hk')) ((HG2.out.subs y hym).keptN (hkw.trans hk')) (HF.out.subs x hxm) (HF2.out.subs y hym)
              have HCALL := Lib.hid hcall
              have HZ := Lib.hid hz
              have HKK := Lib.hid hkw
              clear hx hy hxm hym hkw hrow hrow2 hz hcall
              unfold repA at HCALL
              go_wp2_with fail
              refine wp_planC (fun _ => True) 12 [.seg [0, 1, 2, 3, 4, 5, 6, 7, 8, 9] 10] [11] (by kernel_rfl) (by kernel_rfl) (fun _ _ _ dst _ h => by cases dst <;> exact h) (fun _ _ h => h) trivial (fun n0 => ?_)
              simp only [wpPlanC, pick, List.filterMap_cons, List.filterMap_nil, List.getElem?_cons_succ, List.getElem?_cons_zero]
              repeat (quiet_step (fail))
              refine wpQuiet_nil ?_
              rintro _ ⟨n1, rfl⟩
              clear a0 a1 a2 a3 c0 c1 c2 c3 b0 b1 b2 b3 d0 d1 d2 d3
              have HC2 := Lib.hid (HCALL.out (wr.drewN (n0 + n1)) ((Kept.refl NoBlock wr).drewN _))
              have HKN := Lib.hid (HKW.out.drewN (n0 + n1))
              go_wp2_with fail
              generalize wr.drewN (n0 + n1) = wn at *
              refine HC2.out.mono ?_
              rintro e w3 ⟨rfl, hk3⟩
              have HK3 := Lib.hid (HKN.out.trans hk3)
              clear hk3 HC2 HKN
              cases hsm : sameR x.rep y.rep with
              | true =>
                have HR3 := Lib.hid (all_next HR.out HZ.out (show sameM (x, y) = true from hsm))
                clear hsm
                go_wp2_with fail
                refine Halt.mk ⟨.inr trivial, ?_⟩
                repeat (quiet_step (fail))
                refine wpQuiet_nil ?_
                rintro _ ⟨n2, rfl⟩
                have HK4 := Lib.hid (HK3.out.drewN n2)
                generalize w3.drewN n2 = w4 at *
                go_wp2_with fail
                go_roundw
                case rel => exact ⟨i + 1, by go_num, by omega, HR3.out, HK4.out⟩
                case measure => simp [intOf]; omega
              | false =>
                have hfin : M = false := by rw [← HM.out]; exact all_not HZ.out (show sameM (x, y) = false from hsm)
                subst hfin
                clear hsm
                go_wp2_with fail
                refine Halt.mk ⟨.inr trivial, ?_⟩
                repeat (quiet_step (fail))
                refine wpQuiet_nil ?_
                rintro _ ⟨n2, rfl⟩
                have HK4 := Lib.hid (HK3.out.drewN n2)
                generalize w3.drewN n2 = w4 at *
                go_wp2_with fail
                go_ret
                exact ⟨rfl, HK.out.trans HK4.out⟩
            · have hfin : M = true := by
                rw [← HM.out]
                have := HR.out
                rw [List.take_of_length_le (by rw [List.length_zip]; have := HN.out; have := HN2.out; omega)] at this
                exact this
              subst hfin
              go_wp2_with fail
              go_ret
              exact ⟨rfl, HK.out.trans HKW.out⟩
        · rw [decide_eq_false hl, Bool.false_and]
          have hlI : ¬ ((N : Int) = (N2 : Int)) := by omega
          clear hk hs hn hS hT hs1 hs2
          go_enter Tryd.func11, Tryd.ntmps11
          go_wp2_with fail
          go_ret
          exact ⟨rfl, HK.out⟩
      · rw [decide_eq_false hn, Bool.false_and]
        clear hk hs hS hT hs1 hs2
        go_enter Tryd.func11, Tryd.ntmps11
        go_wp2_with fail
        go_ret
        exact ⟨rfl, HK.out⟩
    · rw [decide_eq_false hs, Bool.false_and, Bool.false_and]
      have hne := str_ne hS hT hs
      clear hk hs hS hT hs1 hs2
      go_enter Tryd.func11, Tryd.ntmps11
      go_wp2_with fail
      go_ret
      exact ⟨rfl, HK.out⟩
  · rw [decide_eq_false hk, Bool.false_and, Bool.false_and, Bool.false_and]
    clear hS hT hs1 hs2
    go_enter Tryd.func11, Tryd.ntmps11
    go_wp2_with fail
    go_ret
    exact ⟨rfl, HK.out⟩
theorem rSame : ∀ m, RS m := RepM.ind rsame_step
theorem sameR_refl (m : RepM) : sameR m.rep m.rep = true := by
  refine RepM.ind (C := fun m => sameR m.rep m.rep = true) (fun m ih => ?_) m
  rw [same_eq]
  simp only [decide_true, Bool.true_and]
  rw [List.all_eq_true]
  intro p hp
  obtain ⟨i, hi⟩ := List.mem_iff_getElem?.1 hp
  rw [List.getElem?_zip_eq_some] at hi
  obtain ⟨h1, h2⟩ := hi
  rw [h1] at h2
  obtain ⟨x, y⟩ := p
  simp only at h1 h2
  obtain rfl := Option.some.inj h2
  exact ih x (List.mem_of_getElem? h1)
end Go.Proofs.YtpekeilpdbdnnaaDoor
namespace Go.Proofs.YtpekeilpdbdnnaaDoor
open Go.RowKit
attribute [local go_sem] fold_part fold_some fold_some' partAt_zero

theorem fit_R : ∀ (k : Nat) (m : RepM), FitM m → fitR k m.rep
  | 0, m, h => by
    rw [m.rep_eq]
    exact ⟨h.n0, h.n1⟩
  | k + 1, m, h => by
    rw [m.rep_eq]
    refine ⟨⟨h.n0, h.n1⟩, fun x hx => ?_⟩
    obtain ⟨y, hy, rfl⟩ := List.mem_map.1 hx
    exact fit_R k y (h.subs y hy)
theorem check_right {r : Rep} (h : checkR r = 0) : nestedB 8 r = false ∧ rightR r = true := by
  unfold checkR at h
  cases h1 : nestedB 8 r with
  | true => rw [h1, if_pos rfl] at h; simp at h
  | false =>
    cases h2 : rightR r with
    | true => exact ⟨rfl, rfl⟩
    | false => rw [h1, h2] at h; simp at h
theorem repE_back {m : RepM} (hf : FitM m) (hc : checkR m.rep = 0) (t : Bs) : repE 8 (bytesR m.rep ++ t) = .ok (m.rep, t) :=
  repE_app 8 m.rep t (check_right hc).2 (check_right hc).1 (fit_R 8 m hf)
theorem decP_back {m : RepM} (hf : FitM m) (hc : checkR m.rep = 0) (t : Bs) : decP (bytesR m.rep ++ t) = (m.rep, (bytesR m.rep).length, 0) := by
  unfold decP
  rw [repE_back hf hc]
  simp only [List.length_append, Nat.add_sub_cancel]

theorem OwnZ.lt {w : World} {base : Nat} {v : Value} {xs : Bs} (h : OwnZ w base v xs) : ∀ j, vblk v = some j → base ≤ j ∧ j < w.heap.size := by
  intro j hj
  rcases h.2 with ⟨rfl, _⟩ | ⟨g, cap, cur, rfl, hb, hg, _⟩
  · cases hj
  · obtain rfl : g = j := by simpa [vblk] using hj
    exact ⟨hb, lt_of_heap hg⟩
theorem OwnZ.own_lt {w : World} {base : Nat} {v : Value} {xs : Bs} (h : OwnZ w base v xs) : ∀ j, v.ownBlock = some j → base ≤ j ∧ j < w.heap.size := by
  intro j hj
  rcases h.2 with ⟨rfl, _⟩ | ⟨g, cap, cur, rfl, hb, hg, _⟩
  · cases hj
  · obtain rfl : g = j := by simpa [Value.ownBlock] using hj
    exact ⟨hb, lt_of_heap hg⟩
theorem OwnZ.empty (w : World) : OwnZ (w.alloc (.cells #[] 5)) w.heap.size (.slice (some ⟨w.heap.size, 0, none⟩) 0 0) [] :=
  ⟨rfl, .inr ⟨w.heap.size, 0, #[], rfl, Nat.le_refl _, heap_alloc_new w _, Nat.le_refl _, by unfold maxLen; omega, rfl, rfl⟩⟩
/-- An own row that grows leaves what was there ahead of it. -/
theorem OwnZ.grown {w0 w w' : World} {v : Value} {xs : Bs} (hk : Kept NoBlock w0 w) (h : OwnZ w w0.heap.size v xs) (hg : w.grownBy w' v.ownBlock) : Kept NoBlock w0 w' :=
  Kept.trans' hk (Kept.grown (S := fun j => v.ownBlock = some j) (Kept.refl _ w) hg (fun j e _ => e)) (fun i hi e => by have := (h.own_lt i e).1; omega)

set_option maxRecDepth 100000 in
set_option maxHeartbeats 3200000 in
theorem law_back (b : Nat) (m : RepM) (ap : Option Addr) (n cap : Nat) (l : Bs) (w : World) (hV : VsB w b) (hg : GoodM w AnyB m) (hf : FitM m) (hb : (bytesR m.rep).length ≤ 50000000) (h : BytesV w (.slice ap n cap) l) :
    Calls Tryd.prog 4 #[repA m, .slice ap n cap] w fun e w' => e = .returned (.bool true) ∧ Kept NoBlock w w' := by
  have hV0 := fun w' hk => palive b w' (hV.kept (w := w) (w' := w') hk)
  have hln := RowV.holds h
  rw [List.length_map] at hln
  obtain ⟨apm, capm, hvm, _⟩ := hg.row.parts
  have HAL := Lib.hid hV0
  have hka := Kept.allocd w (.cells #[.int .i64 m.k, .string ⟨m.s.toArray⟩, .int .i64 m.n, .slice apm m.l.length capm] 26)
  have hga := heap_alloc_new w (.cells #[.int .i64 m.k, .string ⟨m.s.toArray⟩, .int .i64 m.n, .slice apm m.l.length capm] 26)
  have he := pEncode m AnyB b _ (hV.kept hka) (hg.keptN hka) hf (fun _ => by omega)
  unfold EncEnd at he
  obtain ⟨E, hE⟩ : ∃ E, E = checkR m.rep := ⟨_, rfl⟩
  have hback : E = 0 → ∀ t, decP (bytesR m.rep ++ t) = (m.rep, (bytesR m.rep).length, 0) := fun e t => decP_back hf (by rw [← hE, e]) t
  obtain ⟨B, hB⟩ : ∃ B, B = bytesR m.rep := ⟨_, rfl⟩
  rw [← hB] at he hb hback
  rw [← hE] at he
  have HE := Lib.hid he
  have HKA := Lib.hid hka
  have HGA := Lib.hid hga
  have HG := Lib.hid hg
  have HF := Lib.hid hf
  have HH := Lib.hid h
  have HBK := Lib.hid hback
  obtain ⟨a0, a1, a2, a3⟩ := blk4 hga
  unfold repA at HE ⊢
  rw [hvm] at HE ⊢
  unfold strV at HE ⊢
  have HVM := Lib.hid hvm
  obtain ⟨NB, hNB⟩ : ∃ NB, NB = B.length := ⟨_, rfl⟩
  have HNB := Lib.hid hNB
  rw [← hNB] at hb
  clear hV hV0 he hka hga hg hf h hE hB hback hvm hNB
  by_cases hz : E = 0
  · subst hz
    by_cases hlong : 1000 < n
    · have hc : 1000 ≤ cap := by omega
      have HFR := Lib.hid (BytesV.front HH.out 1000 (by omega))
      have HFL := Lib.hid (show (l.take 1000).length ≤ 1000 by rw [List.length_take]; omega)
      obtain ⟨t, ht⟩ : ∃ t, t = l.take 1000 := ⟨_, rfl⟩
      rw [← ht] at HFR HFL
      clear ht hln HH
      go_enter Tryd.func4, Tryd.ntmps4
      go_wp2_with fail
      generalize w.alloc (.cells #[.int .i64 m.k, .string ⟨m.s.toArray⟩, .int .i64 m.n, .slice apm m.l.length capm] 26) = W1 at *
      refine HE.out.mono ?_
      rintro e w2 ⟨hk2, v, rfl, ho⟩
      rw [if_pos trivial] at ho
      obtain ⟨apv, capv, rfl, _⟩ := OwnM.form ho.t
      rw [← HNB.out] at ho ⊢
      have HK2 := Lib.hid (HKA.out.trans hk2)
      have HG2 := Lib.hid (hk2.heap HGA.out (fun h => h))
      have HO := Lib.hid ho
      have HOE := Lib.hid (OwnZ.empty w2)
      have HKE := Lib.hid (Kept.allocd w2 (.cells #[] 5))
      have HB1 := Lib.hid (ho.bytes.keptNo HKE.out)
      clear ho hk2 HE a0 a1 a2 a3 HGA
      refine Lib.hid ?_
      go_wp2_with (at_builtin; refine wpList_appZL rfl _ _ (by rfl) w2.heap.size _ [] (by rfl) HOE.out _ B (by rfl) HB1.out (by have := HNB.out; simp; omega) (by simp) ?_; intro v3 w3 hown hgr; refine Hid.out ?_)
      have HK3 := Lib.hid (OwnZ.grown HKE.out HOE.out hgr)
      have HO3 := Lib.hid hown
      have HB3 := Lib.hid (HFR.out.keptNo (HK2.out.trans HK3.out))
      clear hown hgr HKE HOE HB1 HO
      refine Lib.hid ?_
      go_wp2_with (at_builtin; refine wpList_appZL rfl _ _ (by rfl) w2.heap.size _ ([] ++ B) (by rfl) HO3.out _ t (by rfl) HB3.out (by have := HNB.out; have := HFL.out; simp; omega) HK3.out.size ?_; intro v4 w4 hown hgr; refine Hid.out ?_)
      have HK4 := Lib.hid (HK2.out.trans (OwnZ.grown HK3.out HO3.out hgr))
      have hk24 := OwnZ.grown HK3.out HO3.out hgr
      rw [List.nil_append] at hown
      obtain ⟨ap4, cap4, rfl, _⟩ := OwnM.form hown.t
      have hd := pDecode _ (B ++ t) w4 hown.bytes (by have := HNB.out; have := HFL.out; rw [List.length_append]; omega) (fun j e => (hown.lt j e).2)
      unfold DecEnd at hd
      rw [HBK.out trivial t] at hd
      simp only [← HNB.out] at hd
      have HD := Lib.hid hd
      have HG4 := Lib.hid (hk24.heap HG2.out (fun h => h))
      generalize (B ++ t).length = N4 at *
      clear hown hgr hd hk24 HK3 HO3 HB3 HG2
      refine Lib.hid ?_
      go_wp2_with fail
      refine HD.out.mono ?_
      rintro e w5 ⟨hk5, m2, rfl, hr2, hg2, hf2⟩
      obtain ⟨apn, capn, hvn, _⟩ := hg2.row.parts
      have hkb := Kept.allocd w5 (.cells #[.int .i64 m2.k, .string ⟨m2.s.toArray⟩, .int .i64 m2.n, .slice apn m2.l.length capn] 26)
      have hgb := heap_alloc_new w5 (.cells #[.int .i64 m2.k, .string ⟨m2.s.toArray⟩, .int .i64 m2.n, .slice apn m2.l.length capn] 26)
      have hk6 := HK4.out.trans (hk5.trans hkb)
      have hsame := rSame m2 m _ _ _ (hg2.keptN hkb) (HG.out.keptN hk6) hf2 HF.out
      rw [hr2, sameR_refl] at hsame
      unfold repA at hsame
      rw [HVM.out, hvn] at hsame
      unfold strV at hsame
      have HSM := Lib.hid hsame
      have HK6 := Lib.hid hk6
      obtain ⟨a0, a1, a2, a3⟩ := blk4 ((hk5.trans hkb).heap HG4.out (fun h => h))
      obtain ⟨b0, b1, b2, b3⟩ := blk4 hgb
      unfold repA
      rw [hvn]
      unfold strV
      clear hk5 hr2 hg2 hf2 hvn hkb hgb hk6 hsame HD HG4
      go_wp2_with fail
      generalize w5.alloc (.cells #[.int .i64 m2.k, .string ⟨m2.s.toArray⟩, .int .i64 m2.n, .slice apn m2.l.length capn] 26) = W5 at *
      refine HSM.out.mono ?_
      rintro e w6 ⟨rfl, hk6⟩
      have HK7 := Lib.hid (HK6.out.trans hk6)
      have HA := Lib.hid (HAL.out w6 HK7.out)
      clear hk6 a0 a1 a2 a3 b0 b1 b2 b3 HSM
      go_wp2_with fail
      refine HA.out.mono ?_
      rintro e w7 ⟨rfl, hk7⟩
      have HK8 := Lib.hid (HK7.out.trans hk7)
      clear hk7
      go_wp2_with fail
      go_ret
      exact ⟨rfl, HK8.out⟩
    · have HFR := Lib.hid HH.out
      have HFL := Lib.hid (show l.length ≤ 1000 by omega)
      obtain ⟨t, ht⟩ : ∃ t, t = l := ⟨_, rfl⟩
      rw [← ht] at HFR HFL
      clear ht hln HH
      go_enter Tryd.func4, Tryd.ntmps4
      go_wp2_with fail
      generalize w.alloc (.cells #[.int .i64 m.k, .string ⟨m.s.toArray⟩, .int .i64 m.n, .slice apm m.l.length capm] 26) = W1 at *
      refine HE.out.mono ?_
      rintro e w2 ⟨hk2, v, rfl, ho⟩
      rw [if_pos trivial] at ho
      obtain ⟨apv, capv, rfl, _⟩ := OwnM.form ho.t
      rw [← HNB.out] at ho ⊢
      have HK2 := Lib.hid (HKA.out.trans hk2)
      have HG2 := Lib.hid (hk2.heap HGA.out (fun h => h))
      have HO := Lib.hid ho
      have HOE := Lib.hid (OwnZ.empty w2)
      have HKE := Lib.hid (Kept.allocd w2 (.cells #[] 5))
      have HB1 := Lib.hid (ho.bytes.keptNo HKE.out)
      clear ho hk2 HE a0 a1 a2 a3 HGA
      refine Lib.hid ?_
      go_wp2_with (at_builtin; refine wpList_appZL rfl _ _ (by rfl) w2.heap.size _ [] (by rfl) HOE.out _ B (by rfl) HB1.out (by have := HNB.out; simp; omega) (by simp) ?_; intro v3 w3 hown hgr; refine Hid.out ?_)
      have HK3 := Lib.hid (OwnZ.grown HKE.out HOE.out hgr)
      have HO3 := Lib.hid hown
      have HB3 := Lib.hid (HFR.out.keptNo (HK2.out.trans HK3.out))
      clear hown hgr HKE HOE HB1 HO
      refine Lib.hid ?_
      go_wp2_with (at_builtin; refine wpList_appZL rfl _ _ (by rfl) w2.heap.size _ ([] ++ B) (by rfl) HO3.out _ t (by rfl) HB3.out (by have := HNB.out; have := HFL.out; simp; omega) HK3.out.size ?_; intro v4 w4 hown hgr; refine Hid.out ?_)
      have HK4 := Lib.hid (HK2.out.trans (OwnZ.grown HK3.out HO3.out hgr))
      have hk24 := OwnZ.grown HK3.out HO3.out hgr
      rw [List.nil_append] at hown
      obtain ⟨ap4, cap4, rfl, _⟩ := OwnM.form hown.t
      have hd := pDecode _ (B ++ t) w4 hown.bytes (by have := HNB.out; have := HFL.out; rw [List.length_append]; omega) (fun j e => (hown.lt j e).2)
      unfold DecEnd at hd
      rw [HBK.out trivial t] at hd
      simp only [← HNB.out] at hd
      have HD := Lib.hid hd
      have HG4 := Lib.hid (hk24.heap HG2.out (fun h => h))
      generalize (B ++ t).length = N4 at *
      clear hown hgr hd hk24 HK3 HO3 HB3 HG2
      refine Lib.hid ?_
      go_wp2_with fail
      refine HD.out.mono ?_
      rintro e w5 ⟨hk5, m2, rfl, hr2, hg2, hf2⟩
      obtain ⟨apn, capn, hvn, _⟩ := hg2.row.parts
      have hkb := Kept.allocd w5 (.cells #[.int .i64 m2.k, .string ⟨m2.s.toArray⟩, .int .i64 m2.n, .slice apn m2.l.length capn] 26)
      have hgb := heap_alloc_new w5 (.cells #[.int .i64 m2.k, .string ⟨m2.s.toArray⟩, .int .i64 m2.n, .slice apn m2.l.length capn] 26)
      have hk6 := HK4.out.trans (hk5.trans hkb)
      have hsame := rSame m2 m _ _ _ (hg2.keptN hkb) (HG.out.keptN hk6) hf2 HF.out
      rw [hr2, sameR_refl] at hsame
      unfold repA at hsame
      rw [HVM.out, hvn] at hsame
      unfold strV at hsame
      have HSM := Lib.hid hsame
      have HK6 := Lib.hid hk6
      obtain ⟨a0, a1, a2, a3⟩ := blk4 ((hk5.trans hkb).heap HG4.out (fun h => h))
      obtain ⟨b0, b1, b2, b3⟩ := blk4 hgb
      unfold repA
      rw [hvn]
      unfold strV
      clear hk5 hr2 hg2 hf2 hvn hkb hgb hk6 hsame HD HG4
      go_wp2_with fail
      generalize w5.alloc (.cells #[.int .i64 m2.k, .string ⟨m2.s.toArray⟩, .int .i64 m2.n, .slice apn m2.l.length capn] 26) = W5 at *
      refine HSM.out.mono ?_
      rintro e w6 ⟨rfl, hk6⟩
      have HK7 := Lib.hid (HK6.out.trans hk6)
      have HA := Lib.hid (HAL.out w6 HK7.out)
      clear hk6 a0 a1 a2 a3 b0 b1 b2 b3 HSM
      go_wp2_with fail
      refine HA.out.mono ?_
      rintro e w7 ⟨rfl, hk7⟩
      have HK8 := Lib.hid (HK7.out.trans hk7)
      clear hk7
      go_wp2_with fail
      go_ret
      exact ⟨rfl, HK8.out⟩
  · go_enter Tryd.func4, Tryd.ntmps4
    go_wp2_with fail
    generalize w.alloc (.cells #[.int .i64 m.k, .string ⟨m.s.toArray⟩, .int .i64 m.n, .slice apm m.l.length capm] 26) = W1 at *
    refine HE.out.mono ?_
    rintro e w2 ⟨hk2, v, rfl, ho⟩
    rw [if_neg hz] at ho
    obtain ⟨apv, capv, rfl, _⟩ := OwnM.form ho.t
    have HK2 := Lib.hid (HKA.out.trans hk2)
    have HA := Lib.hid (HAL.out w2 HK2.out)
    clear hk2 ho HE a0 a1 a2 a3
    go_wp2_with fail
    refine HA.out.mono ?_
    rintro e w7 ⟨rfl, hk7⟩
    have HK7 := Lib.hid (HK2.out.trans hk7)
    clear hk7
    go_wp2_with fail
    go_ret
    exact ⟨rfl, HK7.out⟩
end Go.Proofs.YtpekeilpdbdnnaaDoor
