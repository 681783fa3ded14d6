/- Merged: The law of pieces. -/
import Derived.Test.YtpekeilpdbdnnaaDoorZYb1
import Derived.Test.YtpekeilpdbdnnaaDoorYz2z
set_option linter.all false
namespace Go.Proofs.YtpekeilpdbdnnaaDoor
open Go.RowKit
attribute [local go_sem] fold_part fold_some fold_some' partAt_zero

theorem decP_cut {m : RepM} (hf : FitM m) (hc : checkR m.rep = 0) (c : Nat) (h : c < (bytesR m.rep).length) : decP ((bytesR m.rep).take c) = (.mk 0 [] 0 [], c, 31) := by
  have h1 := repE_back hf hc []
  rw [List.append_nil] at h1
  have h2 := repE_cut h1 (List.take_append_drop c (bytesR m.rep)).symm (fun e => by have := congrArg List.length e; rw [List.length_drop, List.length_nil] at this; omega)
  unfold decP
  rw [h2]
  simp only [fltAt, fltNo, Nat.sub_zero, List.length_take, if_true]
  rw [Nat.min_eq_left (by omega)]
theorem rep_one {w : World} {ap : Option Addr} {n cap : Nat} {xs : List RepM} (h : RowK 4 rCells w (.slice ap n cap) xs) {x : RepM} (hi : xs[1]? = some x) :
    ∃ ad, ap = some ad ∧ w.cell? ⟨ad.block, ad.off + 4, none⟩ = some (.int .i64 x.k) ∧ w.cell? ⟨ad.block, ad.off + 4 + 1, none⟩ = some (strV x.s) ∧ w.cell? ⟨ad.block, ad.off + 4 + 2, none⟩ = some (.int .i64 x.n) ∧ w.cell? ⟨ad.block, ad.off + 4 + 3, none⟩ = some x.v := rep_at h hi
theorem two_reps {ms : List RepM} {r r2 : Rep} (h : ms.map RepM.rep = [r, r2]) : ∃ x y, ms = [x, y] ∧ x.rep = r ∧ y.rep = r2 := by
  match ms, h with
  | [x, y], h => exact ⟨x, y, rfl, by simpa using h⟩
theorem allB_two {m m2 : RepM} (hf : FitM m) (hc : checkR m.rep = 0) (hf2 : FitM m2) (hc2 : checkR m2.rep = 0) : allB (bytesR m.rep ++ bytesR m2.rep) = ([m.rep, m2.rep], (bytesR m.rep).length + (bytesR m2.rep).length, 0) := by
  have h1 := decP_back hf hc (bytesR m2.rep)
  have h2 := decP_back hf2 hc2 []
  rw [List.append_nil] at h2
  have p1 : 1 ≤ (bytesR m.rep).length := by
    rcases decP_cases (bytesR m.rep ++ bytesR m2.rep) with ⟨_, h, _⟩ | ⟨h, _⟩ | ⟨h, _⟩
    · rw [h1] at h; exact h
    · rw [h1] at h; simp at h
    · rw [h1] at h; simp at h
  have p2 : 1 ≤ (bytesR m2.rep).length := by
    rcases decP_cases (bytesR m2.rep) with ⟨_, h, _⟩ | ⟨h, _⟩ | ⟨h, _⟩
    · rw [h2] at h; exact h
    · rw [h2] at h; simp at h
    · rw [h2] at h; simp at h
  obtain ⟨j, hj⟩ : ∃ j, (bytesR m.rep ++ bytesR m2.rep).length + 1 = j + 1 + 1 + 1 := ⟨(bytesR m.rep).length + (bytesR m2.rep).length - 2, by rw [List.length_append]; omega⟩
  have h0 : decP [] = (.mk 0 [] 0 [], 0, 31) := rfl
  unfold allB
  rw [hj, allF, h1]
  simp only [if_true, List.drop_left]
  rw [allF, h2]
  simp only [if_true, List.drop_length]
  rw [allF, h0]
  simp

set_option maxRecDepth 100000 in
set_option maxHeartbeats 6400000 in
theorem law_pieces (b : Nat) (m m2 : RepM) (k : Int) (w : World) (hV : VsB w b) (hg : GoodM w AnyB m) (hf : FitM m) (hb : (bytesR m.rep).length ≤ 50000000) (hg2 : GoodM w AnyB m2) (hf2 : FitM m2) (hb2 : (bytesR m2.rep).length ≤ 50000000) :
    Calls Tryd.prog 8 #[repA m, repA m2, .int .i64 k] w fun e w' => e = .returned (.bool true) ∧ Kept NoBlock w w' := by
  have hV0 := fun w' hk => palive b w' (hV.kept (w := w) (w' := w') hk)
  obtain ⟨apm, capm, hvm, _⟩ := hg.row.parts
  obtain ⟨apn, capn, hvn, _⟩ := hg2.row.parts
  have HAL := Lib.hid hV0
  have hks := S2_kept w m m2
  have h0 := S2_b0 w m m2
  have h1 := S2_b1 w m m2
  have he := pEncode m AnyB b _ (hV.kept hks) (hg.keptN hks) hf (fun _ => by omega)
  have he2 := fun w' (hk : Kept NoBlock (S2 w m m2) w') => pEncode m2 AnyB b w' (hV.kept (hks.trans hk)) (hg2.keptN (hks.trans hk)) hf2 (fun _ => by omega)
  unfold EncEnd at he he2
  obtain ⟨E, hE⟩ : ∃ E, E = checkR m.rep := ⟨_, rfl⟩
  obtain ⟨E2, hE2⟩ : ∃ E, E = checkR m2.rep := ⟨_, rfl⟩
  have hall : E = 0 → E2 = 0 → allB (bytesR m.rep ++ bytesR m2.rep) = ([m.rep, m2.rep], (bytesR m.rep).length + (bytesR m2.rep).length, 0) := fun e e2 => allB_two hf (by rw [← hE, e]) hf2 (by rw [← hE2, e2])
  have hcut : E = 0 → ∀ c, c < (bytesR m.rep).length → decP ((bytesR m.rep).take c) = (.mk 0 [] 0 [], c, 31) := fun e c hc => decP_cut hf (by rw [← hE, e]) c hc
  obtain ⟨B, hB⟩ : ∃ B, B = bytesR m.rep := ⟨_, rfl⟩
  obtain ⟨B2, hB2⟩ : ∃ B, B = bytesR m2.rep := ⟨_, rfl⟩
  rw [← hB] at he hb hall hcut
  rw [← hB2] at he2 hb2 hall
  rw [← hE] at he
  rw [← hE2] at he2
  unfold repA at he he2 ⊢
  unfold S2 at he he2 hks h0 h1
  rw [hvm] at he he2 hks h0 h1 ⊢
  rw [hvn] at he he2 hks h0 h1 ⊢
  unfold strV at he he2 hks h0 h1 ⊢
  obtain ⟨NA, hNA⟩ : ∃ NB, NB = B.length := ⟨_, rfl⟩
  obtain ⟨NB, hNB⟩ : ∃ NB, NB = B2.length := ⟨_, rfl⟩
  rw [← hNA] at hb hall hcut
  rw [← hNB] at hb2 hall
  have HE := Lib.hid he
  have HE2 := Lib.hid he2
  have HKS := Lib.hid hks
  have HB0 := Lib.hid h0
  have HB1 := Lib.hid h1
  have HG := Lib.hid hg
  have HF := Lib.hid hf
  have HG2 := Lib.hid hg2
  have HF2 := Lib.hid hf2
  have HVM := Lib.hid hvm
  have HVN := Lib.hid hvn
  have HNA := Lib.hid hNA
  have HNB := Lib.hid hNB
  have HALL := Lib.hid hall
  have HCUT := Lib.hid hcut
  obtain ⟨a0, a1, a2, a3⟩ := blk4 h0
  obtain ⟨b0, b1, b2, b3⟩ := blk4 h1
  clear hV hV0 he he2 hks h0 h1 hg hf hg2 hf2 hvm hvn hE hE2 hB hB2 hNA hNB hall hcut
  by_cases hz : E = 0
  · subst hz
    by_cases hz2 : E2 = 0
    · subst hz2
      by_cases hc0 : 0 ≤ k
      · by_cases hc1 : k < NA
        · obtain ⟨c, rfl⟩ := Int.eq_ofNat_of_zero_le hc0
          have hcn : c < NA := by omega
          go_enter Tryd.func8, Tryd.ntmps8
          go_wp2_with fail
          generalize (w.alloc (.cells #[.int .i64 m.k, .string ⟨m.s.toArray⟩, .int .i64 m.n, .slice apm m.l.length capm] 26)).alloc (.cells #[.int .i64 m2.k, .string ⟨m2.s.toArray⟩, .int .i64 m2.n, .slice apn m2.l.length capn] 26) = W1 at *
          refine HE.out.mono ?_
          rintro e w2 ⟨hk2, v, rfl, ho⟩
          rw [if_pos trivial] at ho
          obtain ⟨apv, capv, rfl, hcv, _⟩ := OwnM.form ho.t
          rw [← HNA.out] at ho hcv ⊢
          have HE3 := Lib.hid (HE2.out _ hk2)
          have HC0 := Lib.hid (hk2.heap HB0.out (fun h => h))
          have HC1 := Lib.hid (hk2.heap HB1.out (fun h => h))
          have HK2 := Lib.hid (HKS.out.trans hk2)
          have HO := Lib.hid ho
          obtain ⟨c0, c1, c2, c3⟩ := blk4 HC1.out
          clear a0 a1 a2 a3 b0 b1 b2 b3 hk2 ho HE HB0 HB1 HKS HE2
          go_wp2_with fail
          refine HE3.out.mono ?_
          rintro e w3 ⟨hk3, v2, rfl, ho2⟩
          rw [if_pos trivial] at ho2
          obtain ⟨apu, capu, rfl, hcu, _⟩ := OwnM.form ho2.t
          rw [← HNB.out] at ho2 hcu ⊢
          have HK3 := Lib.hid (HK2.out.trans hk3)
          clear c0 c1 c2 c3 HE3
          have HBA := Lib.hid (HO.out.bytes.keptNo hk3)
          have HBB := Lib.hid ho2.bytes
          have HD0 := Lib.hid (hk3.heap HC0.out (fun h => h))
          have HD1 := Lib.hid (hk3.heap HC1.out (fun h => h))
          have hlv : ∀ j, vblk (.slice apv NA capv) = some j → j < w3.heap.size := fun j e => Nat.lt_of_lt_of_le (HO.out.lt j e).2 hk3.size
          have HLV := Lib.hid hlv
          clear hk3 ho2 HO HC0 HC1 hlv
          have hcc : c ≤ capv := by omega
          have hfr := BytesV.front HBA.out c (by omega)
          have hd := pDecode _ (B.take c) w3 hfr (by rw [List.length_take]; have := HNA.out; omega) (fun j e => HLV.out j (by rw [vblk_slice] at e ⊢; exact e))
          unfold DecEnd at hd
          rw [HCUT.out trivial c hcn] at hd
          have HDD := Lib.hid hd
          clear hfr hd
          go_wp2_with fail
          refine HDD.out.mono ?_
          rintro e w4 ⟨hk4, m3, rfl, _, hg3, _⟩
          obtain ⟨apk, capk, hvk, _⟩ := hg3.row.parts
          have hk5 := hk4.trans (Kept.allocd w4 (.cells #[.int .i64 m3.k, .string ⟨m3.s.toArray⟩, .int .i64 m3.n, .slice apk m3.l.length capk] 26))
          replace HBA := Lib.hid (HBA.out.keptNo hk5)
          replace HBB := Lib.hid (HBB.out.keptNo hk5)
          replace HD0 := Lib.hid (hk5.heap HD0.out (fun h => h))
          replace HD1 := Lib.hid (hk5.heap HD1.out (fun h => h))
          replace HK3 := Lib.hid (HK3.out.trans hk5)
          unfold repA
          rw [hvk]
          unfold strV
          clear hk4 hg3 hvk hk5 HDD
          have hoe := OwnZ.empty (w4.alloc (.cells #[.int .i64 m3.k, .string ⟨m3.s.toArray⟩, .int .i64 m3.n, .slice apk m3.l.length capk] 26))
          (try rw [World.size_alloc] at hoe)
          have HOE := Lib.hid hoe
          have HKE := Lib.hid (Kept.allocd (w4.alloc (.cells #[.int .i64 m3.k, .string ⟨m3.s.toArray⟩, .int .i64 m3.n, .slice apk m3.l.length capk] 26)) (.cells #[] 5))
          have HBC := Lib.hid (HBA.out.keptNo HKE.out)
          have HSZ : RowKit.Hid ((w4.alloc (.cells #[.int .i64 m3.k, .string ⟨m3.s.toArray⟩, .int .i64 m3.n, .slice apk m3.l.length capk] 26)).heap.size = (w4.heap.size + 1)) := Lib.hid (by first | rfl | simp)
          clear hoe
          refine Lib.hid ?_
          go_wp2_with (at_builtin; refine wpList_appZL rfl _ _ (by rfl) (w4.heap.size + 1) _ [] (by rfl) HOE.out _ B (by rfl) HBC.out (by have := HNA.out; simp; omega) (by simp) ?_; intro v5 w5 hown hgr; refine Hid.out ?_)
          have HK5 := Lib.hid (OwnZ.grown HKE.out (by first | exact HOE.out | (rw [HSZ.out]; exact HOE.out)) hgr)
          have HO5 := Lib.hid hown
          have HB5 := Lib.hid (HBB.out.keptNo HK5.out)
          clear hown hgr HKE HOE HBC
          refine Lib.hid ?_
          go_wp2_with (at_builtin; refine wpList_appZL rfl _ _ (by rfl) (w4.heap.size + 1) _ ([] ++ B) (by rfl) HO5.out _ B2 (by rfl) HB5.out (by have := HNA.out; have := HNB.out; simp; omega) (by first | exact HK5.out.size | (have := HK5.out.size; rw [HSZ.out] at this; exact this)) ?_; intro v6 w6 hown hgr; refine Hid.out ?_)
          have hk6 := OwnZ.grown HK5.out (by first | exact HO5.out | (rw [HSZ.out]; exact HO5.out)) hgr
          rw [List.nil_append] at hown
          obtain ⟨ap6, cap6, rfl, _⟩ := OwnM.form hown.t
          have hd := pAll _ (B ++ B2) w6 hown.bytes (by have := HNA.out; have := HNB.out; rw [List.length_append]; omega) (fun j e => (hown.lt j e).2)
          unfold AllEnd at hd
          rw [HALL.out trivial trivial] at hd
          have HDA := Lib.hid hd
          have HP0 := Lib.hid (hk6.heap HD0.out (fun h => h))
          have HP1 := Lib.hid (hk6.heap HD1.out (fun h => h))
          have HK6 := Lib.hid (HK3.out.trans hk6)
          generalize (B ++ B2).length = N6 at *
          clear hown hgr hd hk6 HK5 HO5 HB5 HD0 HD1 HK3 HBA HBB HLV HSZ
          refine Lib.hid ?_
          go_wp2_with fail
          refine HDA.out.mono ?_
          rintro e w7 ⟨hk7, v7, ms, rfl, hr7, hrow7, hg7, _⟩
          obtain ⟨x, y, rfl, hx, hy⟩ := two_reps hr7
          obtain ⟨ap7, cap7, rfl, hc7, _⟩ := hrow7.parts
          rw [show ([x, y] : List RepM).length = 2 from rfl] at hrow7 hc7 ⊢
          have hk8 := HK6.out.trans hk7
          obtain ⟨a0, a1, a2, a3⟩ := blk4 (hk7.heap HP0.out (fun h => h))
          obtain ⟨b0, b1, b2, b3⟩ := blk4 (hk7.heap HP1.out (fun h => h))
          obtain ⟨ad, rfl, p0, p1, p2, p3⟩ := rep_at hrow7 (i := 0) (x := x) rfl
          have hs1 := fun w' (hk' : Kept NoBlock w7 w') => rSame x m AnyB AnyB w' ((hg7 x (by simp)).1.keptN hk') (HG.out.keptN (hk8.trans hk')) (hg7 x (by simp)).2 HF.out
          have hs2 := fun w' (hk' : Kept NoBlock w7 w') => rSame y m2 AnyB AnyB w' ((hg7 y (by simp)).1.keptN hk') (HG2.out.keptN (hk8.trans hk')) (hg7 y (by simp)).2 HF2.out
          rw [hx, sameR_refl] at hs1
          rw [hy, sameR_refl] at hs2
          unfold repA at hs1 hs2
          rw [HVM.out] at hs1
          rw [HVN.out] at hs2
          unfold strV at hs1 hs2 p1
          simp only [Nat.zero_mul, Nat.one_mul, Addr.add_zero'] at p0 p1 p2 p3
          have HROW := Lib.hid hrow7
          have HQ1 := Lib.hid (hk7.heap HP1.out (fun h => h))
          have HS1 := Lib.hid hs1
          have HS2 := Lib.hid hs2
          have HK8 := Lib.hid hk8
          clear hk7 hr7 hrow7 hg7 hx hy hk8 hs1 hs2 HDA HP0 HP1 HK6
          go_wp2_with fail
          have hw9 : IntKind.i64.wrap ((NA : Int) + (NB : Int)) = (NA : Int) + (NB : Int) := IntWalk.i64_in _ (by omega)
          refine wp_planC (fun _ => True) 34 [.seg [0, 1, 2, 3, 4, 5, 6, 7, 8, 9, 10, 11, 12, 13, 14, 15, 16, 17, 18, 19, 20] 21, .seg [22, 23, 24, 25, 26, 27] 28, .seg [29, 30] 31] [32, 33] (by kernel_rfl) (by kernel_rfl) (fun _ _ _ dst _ h => by cases dst <;> exact h) (fun _ _ h => h) trivial (fun n0 => ?_)
          simp only [wpPlanC, pick, List.filterMap_cons, List.filterMap_nil, List.getElem?_cons_succ, List.getElem?_cons_zero]
          repeat (quiet_step (fail))
          refine wpQuiet_nil ?_
          rintro _ ⟨n1, rfl⟩
          clear a0 a1 a2 a3 p0 p1 p2 p3
          have HC1 := Lib.hid (HS1.out (w7.drewN (n0 + n1)) ((Kept.refl NoBlock w7).drewN _))
          have HK9 := Lib.hid (HK8.out.drewN (n0 + n1))
          have hkk := (Kept.refl NoBlock w7).drewN (n0 + n1)
          clear b0 b1 b2 b3
          go_wp2_with fail
          generalize w7.drewN (n0 + n1) = w8 at *
          refine HC1.out.mono ?_
          rintro e w9 ⟨rfl, hk9⟩
          have hk10 := hkk.trans hk9
          have HK10 := Lib.hid (HK8.out.trans hk10)
          obtain ⟨ad2, hee, q0, q1, q2, q3⟩ := rep_one (HROW.out.kept hk10) (x := y) rfl
          obtain rfl : ad = ad2 := Option.some.inj hee
          obtain ⟨b0, b1, b2, b3⟩ := blk4 (hk10.heap HQ1.out (fun h => h))
          unfold strV at q1
          have HS3 := Lib.hid (fun w' (hk' : Kept NoBlock w9 w') => HS2.out w' (hk10.trans hk'))
          clear hk9 hk10 hkk hee HC1 HS1 HS2 HROW HQ1 HK8 HK9
          go_wp2_with fail
          refine Halt.mk ⟨.inr trivial, ?_⟩
          repeat (quiet_step (fail))
          refine wpQuiet_nil ?_
          rintro _ ⟨n2, rfl⟩
          have HC2 := Lib.hid (HS3.out (w9.drewN n2) ((Kept.refl NoBlock w9).drewN _))
          have HK11 := Lib.hid (HK10.out.drewN n2)
          clear b0 b1 b2 b3 q0 q1 q2 q3 HS3
          go_wp2_with fail
          generalize w9.drewN n2 = w10 at *
          refine HC2.out.mono ?_
          rintro e w11 ⟨rfl, hk11⟩
          have HK12 := Lib.hid (HK11.out.trans hk11)
          clear hk11 HC2
          go_wp2_with fail
          refine Halt.mk ⟨.inr trivial, ?_⟩
          repeat (quiet_step (fail))
          refine wpQuiet_nil ?_
          rintro _ ⟨n3, rfl⟩
          have HK13 := Lib.hid (HK12.out.drewN n3)
          generalize w11.drewN n3 = w12 at *
          have HA := Lib.hid (HAL.out w12 HK13.out)
          go_wp2_with fail
          refine HA.out.mono ?_
          rintro e w13 ⟨rfl, hk13⟩
          have HK14 := Lib.hid (HK13.out.trans hk13)
          clear hk13 HA
          go_wp2_with fail
          refine Halt.mk ⟨.inr trivial, ?_⟩
          repeat (quiet_step (fail))
          refine wpQuiet_nil ?_
          rintro _ ⟨n4, rfl⟩
          have HK15 := Lib.hid (HK14.out.drewN n4)
          go_wp2_with fail
          go_ret
          exact ⟨rfl, HK15.out⟩
        · skip
          go_enter Tryd.func8, Tryd.ntmps8
          go_wp2_with fail
          generalize (w.alloc (.cells #[.int .i64 m.k, .string ⟨m.s.toArray⟩, .int .i64 m.n, .slice apm m.l.length capm] 26)).alloc (.cells #[.int .i64 m2.k, .string ⟨m2.s.toArray⟩, .int .i64 m2.n, .slice apn m2.l.length capn] 26) = W1 at *
          refine HE.out.mono ?_
          rintro e w2 ⟨hk2, v, rfl, ho⟩
          rw [if_pos trivial] at ho
          obtain ⟨apv, capv, rfl, hcv, _⟩ := OwnM.form ho.t
          rw [← HNA.out] at ho hcv ⊢
          have HE3 := Lib.hid (HE2.out _ hk2)
          have HC0 := Lib.hid (hk2.heap HB0.out (fun h => h))
          have HC1 := Lib.hid (hk2.heap HB1.out (fun h => h))
          have HK2 := Lib.hid (HKS.out.trans hk2)
          have HO := Lib.hid ho
          obtain ⟨c0, c1, c2, c3⟩ := blk4 HC1.out
          clear a0 a1 a2 a3 b0 b1 b2 b3 hk2 ho HE HB0 HB1 HKS HE2
          go_wp2_with fail
          refine HE3.out.mono ?_
          rintro e w3 ⟨hk3, v2, rfl, ho2⟩
          rw [if_pos trivial] at ho2
          obtain ⟨apu, capu, rfl, hcu, _⟩ := OwnM.form ho2.t
          rw [← HNB.out] at ho2 hcu ⊢
          have HK3 := Lib.hid (HK2.out.trans hk3)
          clear c0 c1 c2 c3 HE3
          have HBA := Lib.hid (HO.out.bytes.keptNo hk3)
          have HBB := Lib.hid ho2.bytes
          have HD0 := Lib.hid (hk3.heap HC0.out (fun h => h))
          have HD1 := Lib.hid (hk3.heap HC1.out (fun h => h))
          have hlv : ∀ j, vblk (.slice apv NA capv) = some j → j < w3.heap.size := fun j e => Nat.lt_of_lt_of_le (HO.out.lt j e).2 hk3.size
          have HLV := Lib.hid hlv
          clear hk3 ho2 HO HC0 HC1 hlv
          have hoe := OwnZ.empty w3
          (try rw [World.size_alloc] at hoe)
          have HOE := Lib.hid hoe
          have HKE := Lib.hid (Kept.allocd w3 (.cells #[] 5))
          have HBC := Lib.hid (HBA.out.keptNo HKE.out)
          have HSZ : RowKit.Hid (w3.heap.size = w3.heap.size) := Lib.hid (by first | rfl | simp)
          clear hoe
          refine Lib.hid ?_
          go_wp2_with (at_builtin; refine wpList_appZL rfl _ _ (by rfl) w3.heap.size _ [] (by rfl) HOE.out _ B (by rfl) HBC.out (by have := HNA.out; simp; omega) (by simp) ?_; intro v5 w5 hown hgr; refine Hid.out ?_)
          have HK5 := Lib.hid (OwnZ.grown HKE.out (by first | exact HOE.out | (rw [HSZ.out]; exact HOE.out)) hgr)
          have HO5 := Lib.hid hown
          have HB5 := Lib.hid (HBB.out.keptNo HK5.out)
          clear hown hgr HKE HOE HBC
          refine Lib.hid ?_
          go_wp2_with (at_builtin; refine wpList_appZL rfl _ _ (by rfl) w3.heap.size _ ([] ++ B) (by rfl) HO5.out _ B2 (by rfl) HB5.out (by have := HNA.out; have := HNB.out; simp; omega) (by first | exact HK5.out.size | (have := HK5.out.size; rw [HSZ.out] at this; exact this)) ?_; intro v6 w6 hown hgr; refine Hid.out ?_)
          have hk6 := OwnZ.grown HK5.out (by first | exact HO5.out | (rw [HSZ.out]; exact HO5.out)) hgr
          rw [List.nil_append] at hown
          obtain ⟨ap6, cap6, rfl, _⟩ := OwnM.form hown.t
          have hd := pAll _ (B ++ B2) w6 hown.bytes (by have := HNA.out; have := HNB.out; rw [List.length_append]; omega) (fun j e => (hown.lt j e).2)
          unfold AllEnd at hd
          rw [HALL.out trivial trivial] at hd
          have HDA := Lib.hid hd
          have HP0 := Lib.hid (hk6.heap HD0.out (fun h => h))
          have HP1 := Lib.hid (hk6.heap HD1.out (fun h => h))
          have HK6 := Lib.hid (HK3.out.trans hk6)
          generalize (B ++ B2).length = N6 at *
          clear hown hgr hd hk6 HK5 HO5 HB5 HD0 HD1 HK3 HBA HBB HLV HSZ
          refine Lib.hid ?_
          go_wp2_with fail
          refine HDA.out.mono ?_
          rintro e w7 ⟨hk7, v7, ms, rfl, hr7, hrow7, hg7, _⟩
          obtain ⟨x, y, rfl, hx, hy⟩ := two_reps hr7
          obtain ⟨ap7, cap7, rfl, hc7, _⟩ := hrow7.parts
          rw [show ([x, y] : List RepM).length = 2 from rfl] at hrow7 hc7 ⊢
          have hk8 := HK6.out.trans hk7
          obtain ⟨a0, a1, a2, a3⟩ := blk4 (hk7.heap HP0.out (fun h => h))
          obtain ⟨b0, b1, b2, b3⟩ := blk4 (hk7.heap HP1.out (fun h => h))
          obtain ⟨ad, rfl, p0, p1, p2, p3⟩ := rep_at hrow7 (i := 0) (x := x) rfl
          have hs1 := fun w' (hk' : Kept NoBlock w7 w') => rSame x m AnyB AnyB w' ((hg7 x (by simp)).1.keptN hk') (HG.out.keptN (hk8.trans hk')) (hg7 x (by simp)).2 HF.out
          have hs2 := fun w' (hk' : Kept NoBlock w7 w') => rSame y m2 AnyB AnyB w' ((hg7 y (by simp)).1.keptN hk') (HG2.out.keptN (hk8.trans hk')) (hg7 y (by simp)).2 HF2.out
          rw [hx, sameR_refl] at hs1
          rw [hy, sameR_refl] at hs2
          unfold repA at hs1 hs2
          rw [HVM.out] at hs1
          rw [HVN.out] at hs2
          unfold strV at hs1 hs2 p1
          simp only [Nat.zero_mul, Nat.one_mul, Addr.add_zero'] at p0 p1 p2 p3
          have HROW := Lib.hid hrow7
          have HQ1 := Lib.hid (hk7.heap HP1.out (fun h => h))
          have HS1 := Lib.hid hs1
          have HS2 := Lib.hid hs2
          have HK8 := Lib.hid hk8
          clear hk7 hr7 hrow7 hg7 hx hy hk8 hs1 hs2 HDA HP0 HP1 HK6
          go_wp2_with fail
          have hw9 : IntKind.i64.wrap ((NA : Int) + (NB : Int)) = (NA : Int) + (NB : Int) := IntWalk.i64_in _ (by omega)
          refine wp_planC (fun _ => True) 34 [.seg [0, 1, 2, 3, 4, 5, 6, 7, 8, 9, 10, 11, 12, 13, 14, 15, 16, 17, 18, 19, 20] 21, .seg [22, 23, 24, 25, 26, 27] 28, .seg [29, 30] 31] [32, 33] (by kernel_rfl) (by kernel_rfl) (fun _ _ _ dst _ h => by cases dst <;> exact h) (fun _ _ h => h) trivial (fun n0 => ?_)
          simp only [wpPlanC, pick, List.filterMap_cons, List.filterMap_nil, List.getElem?_cons_succ, List.getElem?_cons_zero]
          repeat (quiet_step (fail))
          refine wpQuiet_nil ?_
          rintro _ ⟨n1, rfl⟩
          clear a0 a1 a2 a3 p0 p1 p2 p3
          have HC1 := Lib.hid (HS1.out (w7.drewN (n0 + n1)) ((Kept.refl NoBlock w7).drewN _))
          have HK9 := Lib.hid (HK8.out.drewN (n0 + n1))
          have hkk := (Kept.refl NoBlock w7).drewN (n0 + n1)
          clear b0 b1 b2 b3
          go_wp2_with fail
          generalize w7.drewN (n0 + n1) = w8 at *
          refine HC1.out.mono ?_
          rintro e w9 ⟨rfl, hk9⟩
          have hk10 := hkk.trans hk9
          have HK10 := Lib.hid (HK8.out.trans hk10)
          obtain ⟨ad2, hee, q0, q1, q2, q3⟩ := rep_one (HROW.out.kept hk10) (x := y) rfl
          obtain rfl : ad = ad2 := Option.some.inj hee
          obtain ⟨b0, b1, b2, b3⟩ := blk4 (hk10.heap HQ1.out (fun h => h))
          unfold strV at q1
          have HS3 := Lib.hid (fun w' (hk' : Kept NoBlock w9 w') => HS2.out w' (hk10.trans hk'))
          clear hk9 hk10 hkk hee HC1 HS1 HS2 HROW HQ1 HK8 HK9
          go_wp2_with fail
          refine Halt.mk ⟨.inr trivial, ?_⟩
          repeat (quiet_step (fail))
          refine wpQuiet_nil ?_
          rintro _ ⟨n2, rfl⟩
          have HC2 := Lib.hid (HS3.out (w9.drewN n2) ((Kept.refl NoBlock w9).drewN _))
          have HK11 := Lib.hid (HK10.out.drewN n2)
          clear b0 b1 b2 b3 q0 q1 q2 q3 HS3
          go_wp2_with fail
          generalize w9.drewN n2 = w10 at *
          refine HC2.out.mono ?_
          rintro e w11 ⟨rfl, hk11⟩
          have HK12 := Lib.hid (HK11.out.trans hk11)
          clear hk11 HC2
          go_wp2_with fail
          refine Halt.mk ⟨.inr trivial, ?_⟩
          repeat (quiet_step (fail))
          refine wpQuiet_nil ?_
          rintro _ ⟨n3, rfl⟩
          have HK13 := Lib.hid (HK12.out.drewN n3)
          generalize w11.drewN n3 = w12 at *
          have HA := Lib.hid (HAL.out w12 HK13.out)
          go_wp2_with fail
          refine HA.out.mono ?_
          rintro e w13 ⟨rfl, hk13⟩
          have HK14 := Lib.hid (HK13.out.trans hk13)
          clear hk13 HA
          go_wp2_with fail
          refine Halt.mk ⟨.inr trivial, ?_⟩
          repeat (quiet_step (fail))
          refine wpQuiet_nil ?_
          rintro _ ⟨n4, rfl⟩
          have HK15 := Lib.hid (HK14.out.drewN n4)
          go_wp2_with fail
          go_ret
          exact ⟨rfl, HK15.out⟩
      · skip
        go_enter Tryd.func8, Tryd.ntmps8
        go_wp2_with fail
        generalize (w.alloc (.cells #[.int .i64 m.k, .string ⟨m.s.toArray⟩, .int .i64 m.n, .slice apm m.l.length capm] 26)).alloc (.cells #[.int .i64 m2.k, .string ⟨m2.s.toArray⟩, .int .i64 m2.n, .slice apn m2.l.length capn] 26) = W1 at *
        refine HE.out.mono ?_
        rintro e w2 ⟨hk2, v, rfl, ho⟩
        rw [if_pos trivial] at ho
        obtain ⟨apv, capv, rfl, hcv, _⟩ := OwnM.form ho.t
        rw [← HNA.out] at ho hcv ⊢
        have HE3 := Lib.hid (HE2.out _ hk2)
        have HC0 := Lib.hid (hk2.heap HB0.out (fun h => h))
        have HC1 := Lib.hid (hk2.heap HB1.out (fun h => h))
        have HK2 := Lib.hid (HKS.out.trans hk2)
        have HO := Lib.hid ho
        obtain ⟨c0, c1, c2, c3⟩ := blk4 HC1.out
        clear a0 a1 a2 a3 b0 b1 b2 b3 hk2 ho HE HB0 HB1 HKS HE2
        go_wp2_with fail
        refine HE3.out.mono ?_
        rintro e w3 ⟨hk3, v2, rfl, ho2⟩
        rw [if_pos trivial] at ho2
        obtain ⟨apu, capu, rfl, hcu, _⟩ := OwnM.form ho2.t
        rw [← HNB.out] at ho2 hcu ⊢
        have HK3 := Lib.hid (HK2.out.trans hk3)
        clear c0 c1 c2 c3 HE3
        have HBA := Lib.hid (HO.out.bytes.keptNo hk3)
        have HBB := Lib.hid ho2.bytes
        have HD0 := Lib.hid (hk3.heap HC0.out (fun h => h))
        have HD1 := Lib.hid (hk3.heap HC1.out (fun h => h))
        have hlv : ∀ j, vblk (.slice apv NA capv) = some j → j < w3.heap.size := fun j e => Nat.lt_of_lt_of_le (HO.out.lt j e).2 hk3.size
        have HLV := Lib.hid hlv
        clear hk3 ho2 HO HC0 HC1 hlv
        have hoe := OwnZ.empty w3
        (try rw [World.size_alloc] at hoe)
        have HOE := Lib.hid hoe
        have HKE := Lib.hid (Kept.allocd w3 (.cells #[] 5))
        have HBC := Lib.hid (HBA.out.keptNo HKE.out)
        have HSZ : RowKit.Hid (w3.heap.size = w3.heap.size) := Lib.hid (by first | rfl | simp)
        clear hoe
        refine Lib.hid ?_
        go_wp2_with (at_builtin; refine wpList_appZL rfl _ _ (by rfl) w3.heap.size _ [] (by rfl) HOE.out _ B (by rfl) HBC.out (by have := HNA.out; simp; omega) (by simp) ?_; intro v5 w5 hown hgr; refine Hid.out ?_)
        have HK5 := Lib.hid (OwnZ.grown HKE.out (by first | exact HOE.out | (rw [HSZ.out]; exact HOE.out)) hgr)
        have HO5 := Lib.hid hown
        have HB5 := Lib.hid (HBB.out.keptNo HK5.out)
        clear hown hgr HKE HOE HBC
        refine Lib.hid ?_
        go_wp2_with (at_builtin; refine wpList_appZL rfl _ _ (by rfl) w3.heap.size _ ([] ++ B) (by rfl) HO5.out _ B2 (by rfl) HB5.out (by have := HNA.out; have := HNB.out; simp; omega) (by first | exact HK5.out.size | (have := HK5.out.size; rw [HSZ.out] at this; exact this)) ?_; intro v6 w6 hown hgr; refine Hid.out ?_)
        have hk6 := OwnZ.grown HK5.out (by first | exact HO5.out | (rw [HSZ.out]; exact HO5.out)) hgr
        rw [List.nil_append] at hown
        obtain ⟨ap6, cap6, rfl, _⟩ := OwnM.form hown.t
        have hd := pAll _ (B ++ B2) w6 hown.bytes (by have := HNA.out; have := HNB.out; rw [List.length_append]; omega) (fun j e => (hown.lt j e).2)
        unfold AllEnd at hd
        rw [HALL.out trivial trivial] at hd
        have HDA := Lib.hid hd
        have HP0 := Lib.hid (hk6.heap HD0.out (fun h => h))
        have HP1 := Lib.hid (hk6.heap HD1.out (fun h => h))
        have HK6 := Lib.hid (HK3.out.trans hk6)
        generalize (B ++ B2).length = N6 at *
        clear hown hgr hd hk6 HK5 HO5 HB5 HD0 HD1 HK3 HBA HBB HLV HSZ
        refine Lib.hid ?_
        go_wp2_with fail
        refine HDA.out.mono ?_
        rintro e w7 ⟨hk7, v7, ms, rfl, hr7, hrow7, hg7, _⟩
        obtain ⟨x, y, rfl, hx, hy⟩ := two_reps hr7
        obtain ⟨ap7, cap7, rfl, hc7, _⟩ := hrow7.parts
        rw [show ([x, y] : List RepM).length = 2 from rfl] at hrow7 hc7 ⊢
        have hk8 := HK6.out.trans hk7
        obtain ⟨a0, a1, a2, a3⟩ := blk4 (hk7.heap HP0.out (fun h => h))
        obtain ⟨b0, b1, b2, b3⟩ := blk4 (hk7.heap HP1.out (fun h => h))
        obtain ⟨ad, rfl, p0, p1, p2, p3⟩ := rep_at hrow7 (i := 0) (x := x) rfl
        have hs1 := fun w' (hk' : Kept NoBlock w7 w') => rSame x m AnyB AnyB w' ((hg7 x (by simp)).1.keptN hk') (HG.out.keptN (hk8.trans hk')) (hg7 x (by simp)).2 HF.out
        have hs2 := fun w' (hk' : Kept NoBlock w7 w') => rSame y m2 AnyB AnyB w' ((hg7 y (by simp)).1.keptN hk') (HG2.out.keptN (hk8.trans hk')) (hg7 y (by simp)).2 HF2.out
        rw [hx, sameR_refl] at hs1
        rw [hy, sameR_refl] at hs2
        unfold repA at hs1 hs2
        rw [HVM.out] at hs1
        rw [HVN.out] at hs2
        unfold strV at hs1 hs2 p1
        simp only [Nat.zero_mul, Nat.one_mul, Addr.add_zero'] at p0 p1 p2 p3
        have HROW := Lib.hid hrow7
        have HQ1 := Lib.hid (hk7.heap HP1.out (fun h => h))
        have HS1 := Lib.hid hs1
        have HS2 := Lib.hid hs2
        have HK8 := Lib.hid hk8
        clear hk7 hr7 hrow7 hg7 hx hy hk8 hs1 hs2 HDA HP0 HP1 HK6
        go_wp2_with fail
        have hw9 : IntKind.i64.wrap ((NA : Int) + (NB : Int)) = (NA : Int) + (NB : Int) := IntWalk.i64_in _ (by omega)
        refine wp_planC (fun _ => True) 34 [.seg [0, 1, 2, 3, 4, 5, 6, 7, 8, 9, 10, 11, 12, 13, 14, 15, 16, 17, 18, 19, 20] 21, .seg [22, 23, 24, 25, 26, 27] 28, .seg [29, 30] 31] [32, 33] (by kernel_rfl) (by kernel_rfl) (fun _ _ _ dst _ h => by cases dst <;> exact h) (fun _ _ h => h) trivial (fun n0 => ?_)
        simp only [wpPlanC, pick, List.filterMap_cons, List.filterMap_nil, List.getElem?_cons_succ, List.getElem?_cons_zero]
        repeat (quiet_step (fail))
        refine wpQuiet_nil ?_
        rintro _ ⟨n1, rfl⟩
        clear a0 a1 a2 a3 p0 p1 p2 p3
        have HC1 := Lib.hid (HS1.out (w7.drewN (n0 + n1)) ((Kept.refl NoBlock w7).drewN _))
        have HK9 := Lib.hid (HK8.out.drewN (n0 + n1))
        have hkk := (Kept.refl NoBlock w7).drewN (n0 + n1)
        clear b0 b1 b2 b3
        go_wp2_with fail
        generalize w7.drewN (n0 + n1) = w8 at *
        refine HC1.out.mono ?_
        rintro e w9 ⟨rfl, hk9⟩
        have hk10 := hkk.trans hk9
        have HK10 := Lib.hid (HK8.out.trans hk10)
        obtain ⟨ad2, hee, q0, q1, q2, q3⟩ := rep_one (HROW.out.kept hk10) (x := y) rfl
        obtain rfl : ad = ad2 := Option.some.inj hee
        obtain ⟨b0, b1, b2, b3⟩ := blk4 (hk10.heap HQ1.out (fun h => h))
        unfold strV at q1
        have HS3 := Lib.hid (fun w' (hk' : Kept NoBlock w9 w') => HS2.out w' (hk10.trans hk'))
        clear hk9 hk10 hkk hee HC1 HS1 HS2 HROW HQ1 HK8 HK9
        go_wp2_with fail
        refine Halt.mk ⟨.inr trivial, ?_⟩
        repeat (quiet_step (fail))
        refine wpQuiet_nil ?_
        rintro _ ⟨n2, rfl⟩
        have HC2 := Lib.hid (HS3.out (w9.drewN n2) ((Kept.refl NoBlock w9).drewN _))
        have HK11 := Lib.hid (HK10.out.drewN n2)
        clear b0 b1 b2 b3 q0 q1 q2 q3 HS3
        go_wp2_with fail
        generalize w9.drewN n2 = w10 at *
        refine HC2.out.mono ?_
        rintro e w11 ⟨rfl, hk11⟩
        have HK12 := Lib.hid (HK11.out.trans hk11)
        clear hk11 HC2
        go_wp2_with fail
        refine Halt.mk ⟨.inr trivial, ?_⟩
        repeat (quiet_step (fail))
        refine wpQuiet_nil ?_
        rintro _ ⟨n3, rfl⟩
        have HK13 := Lib.hid (HK12.out.drewN n3)
        generalize w11.drewN n3 = w12 at *
        have HA := Lib.hid (HAL.out w12 HK13.out)
        go_wp2_with fail
        refine HA.out.mono ?_
        rintro e w13 ⟨rfl, hk13⟩
        have HK14 := Lib.hid (HK13.out.trans hk13)
        clear hk13 HA
        go_wp2_with fail
        refine Halt.mk ⟨.inr trivial, ?_⟩
        repeat (quiet_step (fail))
        refine wpQuiet_nil ?_
        rintro _ ⟨n4, rfl⟩
        have HK15 := Lib.hid (HK14.out.drewN n4)
        go_wp2_with fail
        go_ret
        exact ⟨rfl, HK15.out⟩
    · skip
      go_enter Tryd.func8, Tryd.ntmps8
      go_wp2_with fail
      generalize (w.alloc (.cells #[.int .i64 m.k, .string ⟨m.s.toArray⟩, .int .i64 m.n, .slice apm m.l.length capm] 26)).alloc (.cells #[.int .i64 m2.k, .string ⟨m2.s.toArray⟩, .int .i64 m2.n, .slice apn m2.l.length capn] 26) = W1 at *
      refine HE.out.mono ?_
      rintro e w2 ⟨hk2, v, rfl, ho⟩
      rw [if_pos trivial] at ho
      obtain ⟨apv, capv, rfl, hcv, _⟩ := OwnM.form ho.t
      rw [← HNA.out] at ho hcv ⊢
      have HE3 := Lib.hid (HE2.out _ hk2)
      have HC0 := Lib.hid (hk2.heap HB0.out (fun h => h))
      have HC1 := Lib.hid (hk2.heap HB1.out (fun h => h))
      have HK2 := Lib.hid (HKS.out.trans hk2)
      have HO := Lib.hid ho
      obtain ⟨c0, c1, c2, c3⟩ := blk4 HC1.out
      clear a0 a1 a2 a3 b0 b1 b2 b3 hk2 ho HE HB0 HB1 HKS HE2
      go_wp2_with fail
      refine HE3.out.mono ?_
      rintro e w3 ⟨hk3, v2, rfl, ho2⟩
      rw [if_neg hz2] at ho2
      obtain ⟨apu, capu, rfl, hcu, _⟩ := OwnM.form ho2.t
      have HK3 := Lib.hid (HK2.out.trans hk3)
      clear c0 c1 c2 c3 HE3
      have HA := Lib.hid (HAL.out w3 HK3.out)
      clear hk3 ho2 HO HC0 HC1
      go_wp2_with fail
      refine HA.out.mono ?_
      rintro e w7 ⟨rfl, hk7⟩
      have HK7 := Lib.hid (HK3.out.trans hk7)
      clear hk7
      go_wp2_with fail
      go_ret
      exact ⟨rfl, HK7.out⟩
  · skip
    go_enter Tryd.func8, Tryd.ntmps8
    go_wp2_with fail
    generalize (w.alloc (.cells #[.int .i64 m.k, .string ⟨m.s.toArray⟩, .int .i64 m.n, .slice apm m.l.length capm] 26)).alloc (.cells #[.int .i64 m2.k, .string ⟨m2.s.toArray⟩, .int .i64 m2.n, .slice apn m2.l.length capn] 26) = W1 at *
    refine HE.out.mono ?_
    rintro e w2 ⟨hk2, v, rfl, ho⟩
    rw [if_neg hz] at ho
    obtain ⟨apv, capv, rfl, hcv, _⟩ := OwnM.form ho.t
    have HE3 := Lib.hid (HE2.out _ hk2)
    have HC0 := Lib.hid (hk2.heap HB0.out (fun h => h))
    have HC1 := Lib.hid (hk2.heap HB1.out (fun h => h))
    have HK2 := Lib.hid (HKS.out.trans hk2)
    have HO := Lib.hid ho
    obtain ⟨c0, c1, c2, c3⟩ := blk4 HC1.out
    clear a0 a1 a2 a3 b0 b1 b2 b3 hk2 ho HE HB0 HB1 HKS HE2
    go_wp2_with fail
    refine HE3.out.mono ?_
    rintro e w3 ⟨hk3, v2, rfl, ho2⟩
    generalize (if E2 = 0 then B2 else []) = X2 at ho2
    obtain ⟨apu, capu, rfl, hcu, _⟩ := OwnM.form ho2.t
    have HK3 := Lib.hid (HK2.out.trans hk3)
    clear c0 c1 c2 c3 HE3
    have HA := Lib.hid (HAL.out w3 HK3.out)
    clear hk3 ho2 HO HC0 HC1
    go_wp2_with fail
    refine HA.out.mono ?_
    rintro e w7 ⟨rfl, hk7⟩
    have HK7 := Lib.hid (HK3.out.trans hk7)
    clear hk7
    go_wp2_with fail
    go_ret
    exact ⟨rfl, HK7.out⟩
end Go.Proofs.YtpekeilpdbdnnaaDoor
