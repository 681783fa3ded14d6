/- Merged: What the walks of the document's Parse share; The document's Parse: open; The document's Parse: send; The document's Parse: up; The document's Parse: down; The document's Parse: cut; The document's Parse: tick; The document's Parse: restart; The document's Parse: no word; The document's Parse, of any line: the program's deed; What each law asks at its head: a deed's line, there and back; inputs cut. -/
import Derived.Test.YtdinkdmkbfbjbaaGreatDoorZPa5
import Derived.Lib.SlBytesConst
set_option linter.all false
namespace Go.Proofs.YtdinkdmkbfbjbaaGreatDoor
open Go.RowKit
attribute [local go_sem] fold_part fold_some fold_some' partAt_zero

theorem wordsF_len : ∀ (s : Bs) (m : Nat) (cur : Bs), 1 ≤ (wordsF m cur s).length ∧ (wordsF m cur s).length ≤ m + 1
  | [], m, cur => by cases m <;> simp [wordsF]
  | c :: r, m, cur => by
    rw [wordsF]
    split
    · rename_i h
      have := wordsF_len r (m - 1) []
      simp only [List.length_cons]
      omega
    · exact wordsF_len r m _

/-- Five texts in a row of the call's own. -/
structure Five (w : World) (g : Nat) (x0 x1 x2 x3 : Bs) : Prop where
  c0 : w.cell? ⟨g, 0, none⟩ = some (strV x0)
  c1 : w.cell? ⟨g, 1, none⟩ = some (strV x1)
  c2 : w.cell? ⟨g, 2, none⟩ = some (strV x2)
  c3 : w.cell? ⟨g, 3, none⟩ = some (strV x3)
theorem Five.kept {w w' : World} {g : Nat} {x0 x1 x2 x3 : Bs} (h : Five w g x0 x1 x2 x3) (hk : Kept NoBlock w w') : Five w' g x0 x1 x2 x3 := by
  have e : w'.heap[g]? = w.heap[g]? := hk.block _ (cell_lt h.c0) (fun h => h)
  exact ⟨by rw [World.cell?_of_block (w := w) e]; exact h.c0, by rw [World.cell?_of_block (w := w) e]; exact h.c1, by rw [World.cell?_of_block (w := w) e]; exact h.c2, by rw [World.cell?_of_block (w := w) e]; exact h.c3⟩
theorem Five.set {w : World} {g G i : Nat} {v : Value} {x0 x1 x2 x3 : Bs} (h : Five w g x0 x1 x2 x3) (hne : g ≠ G) : Five (w.setCell ⟨G, i, none⟩ v) g x0 x1 x2 x3 := by
  have e : (w.setCell ⟨G, i, none⟩ v).heap[g]? = w.heap[g]? := Below.heap_setCell _ _ _ _ hne
  exact ⟨by rw [World.cell?_of_block (w := w) e]; exact h.c0, by rw [World.cell?_of_block (w := w) e]; exact h.c1, by rw [World.cell?_of_block (w := w) e]; exact h.c2, by rw [World.cell?_of_block (w := w) e]; exact h.c3⟩
theorem five_of {w : World} {base : Nat} {v : Value} {L W : List Bs} (h : OwnS w base v L) (h5 : L.length = 5) (hW : ∀ i, L.getD i [] = W.getD i []) :
    ∃ g cap, v = .slice (some ⟨g, 0, none⟩) 5 cap ∧ base ≤ g ∧ 5 ≤ cap ∧ Five w g (W.getD 0 []) (W.getD 1 []) (W.getD 2 []) (W.getD 3 []) := by
  have hh := h
  obtain ⟨hl, h | ⟨g, cap, cur, fz, rfl, hb, hg, hz, hn, hm, hc, ht⟩⟩ := h
  · exfalso; omega
  · rw [h5] at hh ⊢
    have H := OwnM.holds (show OwnM w base 9 (.slice (some ⟨g, 0, none⟩) 5 cap) 5 (L.map strV) from by have := hh; unfold OwnS at this; rw [h5] at this; exact this)
    have key : ∀ i, i < 5 → w.cell? ⟨g, i, none⟩ = some (strV (W.getD i [])) := fun i hi => by
      obtain ⟨ad, e, hc⟩ := H.2 (by decide)
      cases e
      have := hc i (strV (L.getD i [])) (by rw [List.getElem?_map, List.getElem?_eq_getElem (by omega), List.getD_eq_getElem?_getD, List.getElem?_eq_getElem (by omega)]; rfl)
      rw [addr_add, Nat.zero_add, hW] at this
      exact this
    exact ⟨g, cap, rfl, hb, by omega, key 0 (by decide), key 1 (by decide), key 2 (by decide), key 3 (by decide)⟩

theorem cell_set_ne {w : World} {g j G i : Nat} {v u : Value} (h : w.cell? ⟨g, j, none⟩ = some u) (hne : ¬ (g = G)) : (w.setCell ⟨G, i, none⟩ v).cell? ⟨g, j, none⟩ = some u := by
  rw [World.cell?_of_block (w := w) (Below.heap_setCell _ _ _ _ hne)]
  exact h
end Go.Proofs.YtdinkdmkbfbjbaaGreatDoor
namespace Go.Proofs.YtdinkdmkbfbjbaaGreatDoor
open Go.RowKit
attribute [local go_sem] fold_part fold_some fold_some' partAt_zero

set_option maxRecDepth 100000 in
set_option maxHeartbeats 3200000 in
theorem rparse1 (s : Bs) (hs : s.length ≤ 9000) (w : World) (hV : Vs w) (hx : (wordsF 4 [] s).getD 0 [] = [111, 112, 101, 110]) :
    Calls Tryz.prog 14 #[.string ⟨s.toArray⟩] w (ParseEnd (parseR s) w) := by
  have c5 : ∀ W, Calls Tryz.prog 11 #[.string ⟨s.toArray⟩, .int .i64 5] W fun e w' => ∃ v, e = .returned v ∧ OwnS w' W.heap.size v (wordsF 4 [] s) ∧ Kept NoBlock W w' := fun W => rwords s (by omega) 5 (by decide) W
  have c3 : ∀ W, Calls Tryz.prog 11 #[.string ⟨s.toArray⟩, .int .i64 3] W fun e w' => ∃ v, e = .returned v ∧ OwnS w' W.heap.size v (wordsF 2 [] s) ∧ Kept NoBlock W w' := fun W => rwords s (by omega) 3 (by decide) W
  have hwl : ∀ i, ((wordsF 4 [] s).getD i []).length ≤ 9000 := fun i => by
    rw [List.getD_eq_getElem?_getD]
    cases h : (wordsF 4 [] s)[i]? with
    | none => simp
    | some x => have := words_len s 4 [] x (List.mem_of_getElem? h); simp only [List.length_nil, Option.getD_some] at this ⊢; omega
  have hw2 : ∀ x, (wordsF 2 [] s)[2]? = some x → x.length ≤ 9000 := fun x hx => by
    have := words_len s 2 [] x (List.mem_of_getElem? hx)
    simp only [List.length_nil] at this
    omega
  have cs1 := fun W => rsigned ((wordsF 4 [] s).getD 1 []) (by have := hwl 1; omega) W
  have cs2 := fun W => rsigned ((wordsF 4 [] s).getD 2 []) (by have := hwl 2; omega) W
  have cb3 := fun W => rbig ((wordsF 4 [] s).getD 3 []) (by have := hwl 3; omega) W
  have cb2 := fun W => rbig ((wordsF 4 [] s).getD 2 []) (by have := hwl 2; omega) W
  have cu := fun x W (hx : (wordsF 2 [] s)[2]? = some x) => runq x (by have := hw2 x hx; omega) W
  have cub := fun x b (hx : (wordsF 2 [] s)[2]? = some x) (hb : unq x = .ok b) => (show b.length ≤ 9000 by have := hw2 x hx; have := unq_blen hb; omega)
  have cl := fun D v W (hf : Deed.Fits D) (hk : Kept NoBlock w W) (h : DeedV W v D) => rline v D W h hf
  have hav := refV_in ((wordsF 4 [] s).getD 1 [])
  have hnv := refV_in ((wordsF 4 [] s).getD 2 [])
  have hb3 := bigV_lt ((wordsF 4 [] s).getD 3 [])
  have hb2 := bigV_lt ((wordsF 4 [] s).getD 2 [])
  have hwn := wordsF_len s 4 []
  have hyl := wordsF_len s 2 []
  generalize hr : parseR s = r
  unfold parseR candR at hr
  generalize wordsF 2 [] s = Y at *
  generalize hW : wordsF 4 [] s = Wd at *
  generalize hx1 : Wd.getD 1 [] = x1 at *
  generalize hx2 : Wd.getD 2 [] = x2 at *
  generalize hx3 : Wd.getD 3 [] = x3 at *
  generalize (refV x1).1 = A1 at *
  generalize (refV x2).1 = N1 at *
  generalize bigV x3 = B3 at *
  generalize bigV x2 = B2 at *
  rw [hx] at hr
  obtain ⟨S, hS⟩ : ∃ S : ByteArray, S = ⟨s.toArray⟩ := ⟨_, rfl⟩
  rw [← hS] at c5 c3 ⊢
  have H5 := Lib.hid c5
  have H3 := Lib.hid c3
  have HS1 := Lib.hid cs1
  have HS2 := Lib.hid cs2
  have HB3 := Lib.hid cb3
  have HB2 := Lib.hid cb2
  have HU := Lib.hid cu
  have HUB := Lib.hid cub
  have HL := Lib.hid cl
  have HAV := Lib.hid hav
  have HNV := Lib.hid hnv
  have HL3 := Lib.hid hb3
  have HL2 := Lib.hid hb2
  have HWN := Lib.hid hwn
  have HYL := Lib.hid hyl
  have HR := Lib.hid hr
  have HS := Lib.hid hS
  have HX := Lib.hid hx
  have HX1 := Lib.hid hx1
  have HX2 := Lib.hid hx2
  have HX3 := Lib.hid hx3
  clear c5 c3 cs1 cs2 cb3 cb2 cu cub cl hav hnv hb3 hb2 hwn hyl hr hS hx hx1 hx2 hx3 hW hwl hw2 hV hs
  have HK1 := Lib.hid (Kept.allocd w (.cells #[.int .i64 0, .int .i64 0, .int .i64 0, .int .u64 0, .slice none 0 0] 45))
  have HH1 := Lib.hid (heap_alloc_new w (.cells #[.int .i64 0, .int .i64 0, .int .i64 0, .int .u64 0, .slice none 0 0] 45))
  go_enter Tryz.func14, Tryz.ntmps14
  go_wp2_with fail
  generalize w.alloc (.cells #[.int .i64 0, .int .i64 0, .int .i64 0, .int .u64 0, .slice none 0 0] 45) = W1 at *
  have hlt1 := lt_of_heap HH1.out
  refine (H5.out _).mono ?_
  rintro e w2 ⟨v, rfl, ho, hk⟩
  have hw12 := hk.size
  have HO2b := Lib.hid ho
  have HK2 := Lib.hid (HK1.out.trans hk)
  have HH2 := Lib.hid (hk.heap HH1.out (fun h => h))
  clear hk ho
  go_wp2_with fail
  go_loopw [4] (fun vo wr => ∃ (L : List Bs), OwnS wr W1.heap.size vo L ∧ L.length ≤ 5 ∧ (∀ i, L.getD i [] = Wd.getD i []) ∧ Kept NoBlock w wr ∧ W1.heap.size ≤ wr.heap.size ∧ wr.heap[w.heap.size]? = some (.cells #[.int .i64 0, .int .i64 0, .int .i64 0, .int .u64 0, .slice none 0 0] 45 (0, 0))) (fun vo _ => 5 - lenOf vo)
  case atStart => exact ⟨Wd, HO2b.out, HWN.out.2, fun _ => rfl, HK2.out, hw12, HH2.out⟩
  case round =>
    obtain ⟨L, ho, h5, hgd, hk, hbase, hh⟩ := hrel
    clear HO2b HK2 HH2
    have HO := Lib.hid ho
    have HGD := Lib.hid hgd
    have HK := Lib.hid hk
    have HH := Lib.hid hh
    have hsz := hk.size
    by_cases hlt : L.length < 5
    · obtain ⟨ap, cap, rfl, _⟩ := OwnM.form ho
      have hlI : (L.length : Int) < 5 := by omega
      clear ho hgd hk hh
      go_wp2_with (at_builtin; refine wpList_appS rfl _ _ (by rfl) W1.heap.size _ L (by rfl) (OwnM.alloc HO.out _) wr.heap.size [] (by rfl) (heap_alloc_new wr _) (by omega) (by simp; omega) ?_; intro v3 w3 hown3 hg3; refine Hid.out ?_)
      have HK3 := Lib.hid (Kept.app (HK.out.trans (Kept.allocd wr _)) (OwnM.alloc HO.out _) (Nat.le_of_lt hlt1) hg3)
      have hsz3 : W1.heap.size ≤ w3.heap.size := by have := hg3.size; simp at this; omega
      have HH3 := Lib.hid (show w3.heap[w.heap.size]? = some (.cells #[.int .i64 0, .int .i64 0, .int .i64 0, .int .u64 0, .slice none 0 0] 45 (0, 0)) from by
        rw [hg3.block w.heap.size (by simp; omega) (fun e => by have := (OwnM.alloc (o := .cells #[.string ⟨#[]⟩] 9) HO.out).lt _ e.symm; omega)]
        exact (Kept.allocd wr _).heap HH.out (fun h => h))
      have HO3 := Lib.hid hown3
      obtain ⟨ap3, cap3, hv3, _⟩ := OwnM.form hown3
      have hgd3 : ∀ i, (L ++ [[]]).getD i [] = Wd.getD i [] := fun i => by
        rw [← HGD.out i, List.getD_eq_getElem?_getD, List.getD_eq_getElem?_getD, List.getElem?_append]
        split
        · rfl
        · rename_i hi
          rw [List.getElem?_eq_none (show L.length ≤ i by omega)]
          cases h : i - L.length <;> simp
      have HGD3 := Lib.hid hgd3
      subst hv3
      clear hown3 hg3 hgd3
      refine Lib.hid ?_
      go_wp2
      go_roundw
      case rel => exact ⟨L ++ [[]], HO3.out, by rw [List.length_append, List.length_singleton]; omega, HGD3.out, HK3.out, hsz3, HH3.out⟩
      case measure => simp [lenOf]; omega
    · obtain h5' : L.length = 5 := by omega
      obtain ⟨g, cap, rfl, hbg, _, hf⟩ := five_of ho h5' hgd
      rw [HX.out, HX1.out, HX2.out, HX3.out] at hf
      have hgl := cell_lt hf.c0
      simp only at hgl
      have hne : ¬ (g = w.heap.size) := by omega
      have HF := Lib.hid hf
      obtain ⟨f0, f1, f2, f3⟩ := hf
      unfold strV at f0 f1 f2 f3
      clear ho hgd hk hh HGD HO
      go_wp2_with fail
      refine (HS1.out _).mono ?_
      rintro e w3 ⟨rfl, rfl⟩
      obtain ⟨z0, z1, z2, z3, z4⟩ := blk5 HH.out
      have zf := fun i => frozenB HH.out i
      have hGH : w.heap.size < wr.heap.size := lt_of_heap HH.out
      have hne1 : ¬ (wr.heap.size = w.heap.size) := by omega
      have hne2 : ¬ (w.heap.size = wr.heap.size) := by omega
      have hne3 : ¬ (g = wr.heap.size) := by omega
      have hne4 : ¬ (wr.heap.size = g) := by omega
      go_wp2_with fail
      clear z0 z1 z2 z3 z4 zf f0 f1 f2 f3
      have hk7 := HK.out.alloc (.cells #[.int .i64 1, .int .i64 A1, .int .i64 0, .int .u64 0, .slice none 0 0] 45)
      have hg7 := heap_alloc_new wr (.cells #[.int .i64 1, .int .i64 A1, .int .i64 0, .int .u64 0, .slice none 0 0] 45)
      have hh7 := (Kept.allocd wr (.cells #[.int .i64 1, .int .i64 A1, .int .i64 0, .int .u64 0, .slice none 0 0] 45)).heap HH.out (fun h => h)
      have hf7 := HF.out.kept (Kept.allocd wr (.cells #[.int .i64 1, .int .i64 A1, .int .i64 0, .int .u64 0, .slice none 0 0] 45))
      generalize wr.heap.size = G at *
      generalize wr.alloc (.cells #[.int .i64 1, .int .i64 A1, .int .i64 0, .int .u64 0, .slice none 0 0] 45) = W7 at *
      have HK7 := Lib.hid hk7
      have HG7 := Lib.hid hg7
      have HH7 := Lib.hid hh7
      have HF7 := Lib.hid hf7
      clear hk7 hg7 hh7 hf7 HK HF HH
      have HNB := Lib.hid (show ∀ k, vblk (.slice none 0 0) = some k → k ≠ w.heap.size from fun k hk => by cases hk)
      have hg9 : W7.heap[G]? = some (.cells #[.int .i64 1, .int .i64 A1, .int .i64 0, .int .u64 0, .slice none 0 0] 45 (0, 0)) := by have := HG7.out; simpa using this
      have hh9 := HH7.out
      have hk9 := HK7.out
      have hdv : DeedV W7 (.agg #[.int .i64 1, .int .i64 A1, .int .i64 0, .int .u64 0, .slice none 0 0]) (⟨1, A1, 0, 0, []⟩ : Deed) := ⟨_, rfl, (BytesV.nil _)⟩
      have htb : TypedB W7 (.slice none 0 0) := (fun k hk => by cases hk)
      generalize W7 = W9 at *
      have HG9 := Lib.hid hg9
      have HH9 := Lib.hid hh9
      have HK9 := Lib.hid hk9
      have hl := HL.out (⟨1, A1, 0, 0, []⟩ : Deed) _ W9 ⟨by simp, HAV.out, by simp, by simp, by simp⟩ hk9 hdv
      have HDV := Lib.hid hdv
      have HTB := Lib.hid htb
      clear hg9 hh9 hk9 hdv htb HL
      by_cases hL : lineD (⟨1, A1, 0, 0, []⟩ : Deed) = s
      · have HRR := Lib.hid (show r = some (⟨1, A1, 0, 0, []⟩ : Deed) by have hr := HR.out; simpa [hL] using hr.symm)
        have hLe : (⟨(lineD (⟨1, A1, 0, 0, []⟩ : Deed)).toArray⟩ : ByteArray) = S := by rw [hL, HS.out]
        rw [hLe] at hl
        clear HR hL hLe
        refine hl.mono ?_
        rintro e w10 ⟨rfl, hk10⟩
        have HK10 := Lib.hid hk10
        have HH10 := Lib.hid (hk10.heap HH9.out (fun h => h))
        have HG10 := Lib.hid (hk10.heap HG9.out (fun h => h))
        clear hl hk10
        obtain ⟨y0, y1, y2, y3, y4⟩ := blk5 HG10.out
        have yf := fun i => frozenB HG10.out i
        obtain ⟨z0, z1, z2, z3, z4⟩ := blk5 HH10.out
        have zf := fun i => frozenB HH10.out i
        go_wp2_with fail
        refine bodyPost_ret (v := .tuple #[.agg #[.int .i64 1, .int .i64 A1, .int .i64 0, .int .u64 0, .slice none 0 0], .int .i64 0]) (results_cell_tmp (q := 3) (ty := 45) (ad := ⟨w.heap.size, 0, none⟩) rfl _ rfl (by go_simp)) rfl (some_end2 (D := (⟨1, A1, 0, 0, []⟩ : Deed)) HRR.out (HDV.out.kept HK10.out) rfl HNB.out (HTB.out.kept HK10.out) (HK9.out.trans HK10.out) _ _ _ _ _)
      · have HRR := Lib.hid (show r = none by have hr := HR.out; simpa [hL] using hr.symm)
        obtain ⟨T, hT⟩ : ∃ T : ByteArray, T = ⟨(lineD (⟨1, A1, 0, 0, []⟩ : Deed)).toArray⟩ := ⟨_, rfl⟩
        have hse : ¬ (T = S) := fun h => hL (by rw [hT, HS.out] at h; simpa using h)
        have hse' : (T.toList == S.toList) = false := by
          rw [beq_eq_false_iff_ne, Go.ByteArray.toList_eq, Go.ByteArray.toList_eq]
          exact fun h => hse (ByteArray.ext (Array.ext' h))
        rw [← hT] at hl
        clear HR hL hT
        refine hl.mono ?_
        rintro e w10 ⟨rfl, hk10⟩
        have HK10 := Lib.hid (HK9.out.trans hk10)
        have HH10 := Lib.hid (hk10.heap HH9.out (fun h => h))
        have HG10 := Lib.hid (hk10.heap HG9.out (fun h => h))
        clear hl hk10
        obtain ⟨y0, y1, y2, y3, y4⟩ := blk5 HG10.out
        have yf := fun i => frozenB HG10.out i
        obtain ⟨z0, z1, z2, z3, z4⟩ := blk5 HH10.out
        have zf := fun i => frozenB HH10.out i
        go_wp2_with fail
        refine bodyPost_ret (v := .tuple #[.agg #[.int .i64 0, .int .i64 0, .int .i64 0, .int .u64 0, .slice none 0 0], .int .i64 251]) (results_cell_tmp (q := 3) (ty := 45) (ad := ⟨w.heap.size, 0, none⟩) rfl _ rfl (by go_simp)) rfl (none_end HRR.out ?_)
        refine Kept.own5 ?_ (Nat.le_refl _) _ _ _ _ _
        exact HK10.out
end Go.Proofs.YtdinkdmkbfbjbaaGreatDoor
namespace Go.Proofs.YtdinkdmkbfbjbaaGreatDoor
open Go.RowKit
attribute [local go_sem] fold_part fold_some fold_some' partAt_zero

set_option maxRecDepth 100000 in
set_option maxHeartbeats 3200000 in
theorem rparse2 (s : Bs) (hs : s.length ≤ 9000) (w : World) (hV : Vs w) (hx : (wordsF 4 [] s).getD 0 [] = [115, 101, 110, 100]) :
    Calls Tryz.prog 14 #[.string ⟨s.toArray⟩] w (ParseEnd (parseR s) w) := by
  have c5 : ∀ W, Calls Tryz.prog 11 #[.string ⟨s.toArray⟩, .int .i64 5] W fun e w' => ∃ v, e = .returned v ∧ OwnS w' W.heap.size v (wordsF 4 [] s) ∧ Kept NoBlock W w' := fun W => rwords s (by omega) 5 (by decide) W
  have c3 : ∀ W, Calls Tryz.prog 11 #[.string ⟨s.toArray⟩, .int .i64 3] W fun e w' => ∃ v, e = .returned v ∧ OwnS w' W.heap.size v (wordsF 2 [] s) ∧ Kept NoBlock W w' := fun W => rwords s (by omega) 3 (by decide) W
  have hwl : ∀ i, ((wordsF 4 [] s).getD i []).length ≤ 9000 := fun i => by
    rw [List.getD_eq_getElem?_getD]
    cases h : (wordsF 4 [] s)[i]? with
    | none => simp
    | some x => have := words_len s 4 [] x (List.mem_of_getElem? h); simp only [List.length_nil, Option.getD_some] at this ⊢; omega
  have hw2 : ∀ x, (wordsF 2 [] s)[2]? = some x → x.length ≤ 9000 := fun x hx => by
    have := words_len s 2 [] x (List.mem_of_getElem? hx)
    simp only [List.length_nil] at this
    omega
  have cs1 := fun W => rsigned ((wordsF 4 [] s).getD 1 []) (by have := hwl 1; omega) W
  have cs2 := fun W => rsigned ((wordsF 4 [] s).getD 2 []) (by have := hwl 2; omega) W
  have cb3 := fun W => rbig ((wordsF 4 [] s).getD 3 []) (by have := hwl 3; omega) W
  have cb2 := fun W => rbig ((wordsF 4 [] s).getD 2 []) (by have := hwl 2; omega) W
  have cu := fun x W (hx : (wordsF 2 [] s)[2]? = some x) => runq x (by have := hw2 x hx; omega) W
  have cub := fun x b (hx : (wordsF 2 [] s)[2]? = some x) (hb : unq x = .ok b) => (show b.length ≤ 9000 by have := hw2 x hx; have := unq_blen hb; omega)
  have cl := fun D v W (hf : Deed.Fits D) (hk : Kept NoBlock w W) (h : DeedV W v D) => rline v D W h hf
  have hav := refV_in ((wordsF 4 [] s).getD 1 [])
  have hnv := refV_in ((wordsF 4 [] s).getD 2 [])
  have hb3 := bigV_lt ((wordsF 4 [] s).getD 3 [])
  have hb2 := bigV_lt ((wordsF 4 [] s).getD 2 [])
  have hwn := wordsF_len s 4 []
  have hyl := wordsF_len s 2 []
  generalize hr : parseR s = r
  unfold parseR candR at hr
  generalize wordsF 2 [] s = Y at *
  generalize hW : wordsF 4 [] s = Wd at *
  generalize hx1 : Wd.getD 1 [] = x1 at *
  generalize hx2 : Wd.getD 2 [] = x2 at *
  generalize hx3 : Wd.getD 3 [] = x3 at *
  generalize (refV x1).1 = A1 at *
  generalize (refV x2).1 = N1 at *
  generalize bigV x3 = B3 at *
  generalize bigV x2 = B2 at *
  rw [hx] at hr
  obtain ⟨S, hS⟩ : ∃ S : ByteArray, S = ⟨s.toArray⟩ := ⟨_, rfl⟩
  rw [← hS] at c5 c3 ⊢
  have H5 := Lib.hid c5
  have H3 := Lib.hid c3
  have HS1 := Lib.hid cs1
  have HS2 := Lib.hid cs2
  have HB3 := Lib.hid cb3
  have HB2 := Lib.hid cb2
  have HU := Lib.hid cu
  have HUB := Lib.hid cub
  have HL := Lib.hid cl
  have HAV := Lib.hid hav
  have HNV := Lib.hid hnv
  have HL3 := Lib.hid hb3
  have HL2 := Lib.hid hb2
  have HWN := Lib.hid hwn
  have HYL := Lib.hid hyl
  have HR := Lib.hid hr
  have HS := Lib.hid hS
  have HX := Lib.hid hx
  have HX1 := Lib.hid hx1
  have HX2 := Lib.hid hx2
  have HX3 := Lib.hid hx3
  clear c5 c3 cs1 cs2 cb3 cb2 cu cub cl hav hnv hb3 hb2 hwn hyl hr hS hx hx1 hx2 hx3 hW hwl hw2 hV hs
  have HK1 := Lib.hid (Kept.allocd w (.cells #[.int .i64 0, .int .i64 0, .int .i64 0, .int .u64 0, .slice none 0 0] 45))
  have HH1 := Lib.hid (heap_alloc_new w (.cells #[.int .i64 0, .int .i64 0, .int .i64 0, .int .u64 0, .slice none 0 0] 45))
  go_enter Tryz.func14, Tryz.ntmps14
  go_wp2_with fail
  generalize w.alloc (.cells #[.int .i64 0, .int .i64 0, .int .i64 0, .int .u64 0, .slice none 0 0] 45) = W1 at *
  have hlt1 := lt_of_heap HH1.out
  refine (H5.out _).mono ?_
  rintro e w2 ⟨v, rfl, ho, hk⟩
  have hw12 := hk.size
  have HO2b := Lib.hid ho
  have HK2 := Lib.hid (HK1.out.trans hk)
  have HH2 := Lib.hid (hk.heap HH1.out (fun h => h))
  clear hk ho
  go_wp2_with fail
  go_loopw [4] (fun vo wr => ∃ (L : List Bs), OwnS wr W1.heap.size vo L ∧ L.length ≤ 5 ∧ (∀ i, L.getD i [] = Wd.getD i []) ∧ Kept NoBlock w wr ∧ W1.heap.size ≤ wr.heap.size ∧ wr.heap[w.heap.size]? = some (.cells #[.int .i64 0, .int .i64 0, .int .i64 0, .int .u64 0, .slice none 0 0] 45 (0, 0))) (fun vo _ => 5 - lenOf vo)
  case atStart => exact ⟨Wd, HO2b.out, HWN.out.2, fun _ => rfl, HK2.out, hw12, HH2.out⟩
  case round =>
    obtain ⟨L, ho, h5, hgd, hk, hbase, hh⟩ := hrel
    clear HO2b HK2 HH2
    have HO := Lib.hid ho
    have HGD := Lib.hid hgd
    have HK := Lib.hid hk
    have HH := Lib.hid hh
    have hsz := hk.size
    by_cases hlt : L.length < 5
    · obtain ⟨ap, cap, rfl, _⟩ := OwnM.form ho
      have hlI : (L.length : Int) < 5 := by omega
      clear ho hgd hk hh
      go_wp2_with (at_builtin; refine wpList_appS rfl _ _ (by rfl) W1.heap.size _ L (by rfl) (OwnM.alloc HO.out _) wr.heap.size [] (by rfl) (heap_alloc_new wr _) (by omega) (by simp; omega) ?_; intro v3 w3 hown3 hg3; refine Hid.out ?_)
      have HK3 := Lib.hid (Kept.app (HK.out.trans (Kept.allocd wr _)) (OwnM.alloc HO.out _) (Nat.le_of_lt hlt1) hg3)
      have hsz3 : W1.heap.size ≤ w3.heap.size := by have := hg3.size; simp at this; omega
      have HH3 := Lib.hid (show w3.heap[w.heap.size]? = some (.cells #[.int .i64 0, .int .i64 0, .int .i64 0, .int .u64 0, .slice none 0 0] 45 (0, 0)) from by
        rw [hg3.block w.heap.size (by simp; omega) (fun e => by have := (OwnM.alloc (o := .cells #[.string ⟨#[]⟩] 9) HO.out).lt _ e.symm; omega)]
        exact (Kept.allocd wr _).heap HH.out (fun h => h))
      have HO3 := Lib.hid hown3
      obtain ⟨ap3, cap3, hv3, _⟩ := OwnM.form hown3
      have hgd3 : ∀ i, (L ++ [[]]).getD i [] = Wd.getD i [] := fun i => by
        rw [← HGD.out i, List.getD_eq_getElem?_getD, List.getD_eq_getElem?_getD, List.getElem?_append]
        split
        · rfl
        · rename_i hi
          rw [List.getElem?_eq_none (show L.length ≤ i by omega)]
          cases h : i - L.length <;> simp
      have HGD3 := Lib.hid hgd3
      subst hv3
      clear hown3 hg3 hgd3
      refine Lib.hid ?_
      go_wp2
      go_roundw
      case rel => exact ⟨L ++ [[]], HO3.out, by rw [List.length_append, List.length_singleton]; omega, HGD3.out, HK3.out, hsz3, HH3.out⟩
      case measure => simp [lenOf]; omega
    · obtain h5' : L.length = 5 := by omega
      obtain ⟨g, cap, rfl, hbg, _, hf⟩ := five_of ho h5' hgd
      rw [HX.out, HX1.out, HX2.out, HX3.out] at hf
      have hgl := cell_lt hf.c0
      simp only at hgl
      have hne : ¬ (g = w.heap.size) := by omega
      have HF := Lib.hid hf
      obtain ⟨f0, f1, f2, f3⟩ := hf
      unfold strV at f0 f1 f2 f3
      clear ho hgd hk hh HGD HO
      go_wp2_with fail
      refine (HS1.out _).mono ?_
      rintro e w3 ⟨rfl, rfl⟩
      obtain ⟨z0, z1, z2, z3, z4⟩ := blk5 HH.out
      have zf := fun i => frozenB HH.out i
      have hGH : w.heap.size < wr.heap.size := lt_of_heap HH.out
      have hne1 : ¬ (wr.heap.size = w.heap.size) := by omega
      have hne2 : ¬ (w.heap.size = wr.heap.size) := by omega
      have hne3 : ¬ (g = wr.heap.size) := by omega
      have hne4 : ¬ (wr.heap.size = g) := by omega
      go_wp2_with fail
      clear z0 z1 z2 z3 z4 zf f0 f1 f2 f3
      have hk7 := HK.out.alloc (.cells #[.int .i64 2, .int .i64 A1, .int .i64 0, .int .u64 0, .slice none 0 0] 45)
      have hg7 := heap_alloc_new wr (.cells #[.int .i64 2, .int .i64 A1, .int .i64 0, .int .u64 0, .slice none 0 0] 45)
      have hh7 := (Kept.allocd wr (.cells #[.int .i64 2, .int .i64 A1, .int .i64 0, .int .u64 0, .slice none 0 0] 45)).heap HH.out (fun h => h)
      have hf7 := HF.out.kept (Kept.allocd wr (.cells #[.int .i64 2, .int .i64 A1, .int .i64 0, .int .u64 0, .slice none 0 0] 45))
      generalize wr.heap.size = G at *
      generalize wr.alloc (.cells #[.int .i64 2, .int .i64 A1, .int .i64 0, .int .u64 0, .slice none 0 0] 45) = W7 at *
      have HK7 := Lib.hid hk7
      have HG7 := Lib.hid hg7
      have HH7 := Lib.hid hh7
      have HF7 := Lib.hid hf7
      clear hk7 hg7 hh7 hf7 HK HF HH
      refine (H3.out _).mono ?_
      rintro e w8 ⟨v2, rfl, ho2, hk⟩
      have HK8 := Lib.hid (HK7.out.trans hk)
      have HG8 := Lib.hid (hk.heap HG7.out (fun h => h))
      have HH8 := Lib.hid (hk.heap HH7.out (fun h => h))
      obtain ⟨ap2, cap2, rfl, hc2, _⟩ := OwnM.form ho2
      have HO2 := Lib.hid ho2
      have hG8 : G < W7.heap.size := lt_of_heap HG7.out
      clear hk ho2
      by_cases h3 : Y.length = 3
      · obtain ⟨x, hx⟩ : ∃ x, Y[2]? = some x := ⟨Y[2], List.getElem?_eq_getElem (by omega)⟩
        obtain ⟨ad2, had2, hcx⟩ := RowV.cell (OwnM.row HO2.out) (i := 2) (v := strV x) (by rw [List.getElem?_map, hx]; rfl)
        subst had2
        unfold strV at hcx
        rw [show ad2.add 2 = ⟨ad2.block, ad2.off + 2, none⟩ by simp [Addr.add]] at hcx
        rw [h3]
        have hu := fun W => HU.out x W hx
        have hub := fun b hb => HUB.out x b hx hb
        have hr := HR.out
        rw [hx] at hr
        simp only at hr
        generalize unq x = U at *
        have HUB2 := Lib.hid hub
        have HR2 := Lib.hid hr
        clear hr HR HU HUB hub hx
        go_wp2_with fail
        refine (hu _).mono ?_
        rintro e w9 ⟨hk, hend⟩
        have HK9 := Lib.hid (HK8.out.trans hk)
        have HG9 := Lib.hid (hk.heap HG8.out (fun h => h))
        have HH9 := Lib.hid (hk.heap HH8.out (fun h => h))
        have hw89 := hk.size
        clear hk hu hcx
        have HR := HR2
        clear HR2
        cases U with
        | error n =>
          obtain rfl := hend
          have HRR := Lib.hid (show r = none by have hr := HR.out; simpa using hr.symm)
          clear HR
          obtain ⟨y0, y1, y2, y3, y4⟩ := blk5 HG9.out
          have yf := fun i => frozenB HG9.out i
          obtain ⟨z0, z1, z2, z3, z4⟩ := blk5 HH9.out
          have zf := fun i => frozenB HH9.out i
          go_wp2_with fail
          refine bodyPost_ret (v := .tuple #[.agg #[.int .i64 0, .int .i64 0, .int .i64 0, .int .u64 0, .slice none 0 0], .int .i64 251]) (results_cell_tmp (q := 3) (ty := 45) (ad := ⟨w.heap.size, 0, none⟩) rfl _ rfl (by go_simp)) rfl (none_end HRR.out ?_)
          refine Kept.own5 ?_ (Nat.le_refl _) _ _ _ _ _
          exact HK9.out
        | ok b =>
          obtain ⟨v, rfl, hv⟩ := hend
          obtain ⟨ap, cap, rfl, _⟩ := hv.bytes.parts
          have HNB := Lib.hid (show ∀ k, vblk (.slice ap b.length cap) = some k → k ≠ w.heap.size by
            intro k hk e
            have := hv.blk k hk
            have := lt_of_heap HH8.out
            omega)
          have hbl := HUB2.out b rfl
          have HHV := Lib.hid hv
          have HBL := Lib.hid hbl
          clear hv hbl
          obtain ⟨y0, y1, y2, y3, y4⟩ := blk5 HG9.out
          have yf := fun i => frozenB HG9.out i
          obtain ⟨z0, z1, z2, z3, z4⟩ := blk5 HH9.out
          have zf := fun i => frozenB HH9.out i
          go_wp2_with fail
          clear y0 y1 y2 y3 y4 yf z0 z1 z2 z3 z4 zf
          have hg9 : (w9.setCell ⟨G, 4, none⟩ (.slice ap b.length cap)).heap[G]? = some (.cells #[.int .i64 2, .int .i64 A1, .int .i64 0, .int .u64 0, .slice ap b.length cap] 45 (0, 0)) := by have := (heap_setCell_same HG9.out 4 (.slice ap b.length cap)); simpa using this
          have hh9 := (heap_set_ne (p := ⟨G, 4, none⟩) (v := .slice ap b.length cap) HH9.out hne2)
          have hk9 := (HK9.out.own (g := G) (Nat.le_of_lt hGH) 4 (.slice ap b.length cap))
          have hdv : DeedV (w9.setCell ⟨G, 4, none⟩ (.slice ap b.length cap)) (.agg #[.int .i64 2, .int .i64 A1, .int .i64 0, .int .u64 0, .slice ap b.length cap]) (⟨2, A1, 0, 0, b⟩ : Deed) := ⟨_, rfl, (BytesV.kept (S := fun k => k = G) HHV.out.bytes (Kept.one _ _ _ _) (fun k hk e => by have := HHV.out.blk k hk; have := lt_of_heap HG8.out; omega))⟩
          have htb : TypedB (w9.setCell ⟨G, 4, none⟩ (.slice ap b.length cap)) (.slice ap b.length cap) := (fun k hk => by obtain ⟨cs, fz, e⟩ := OwnM.typed HHV.out k hk; exact ⟨cs, fz, heap_set_ne (p := ⟨G, 4, none⟩) e (by have := HHV.out.blk k hk; have := lt_of_heap HG8.out; simp only; omega)⟩)
          generalize (w9.setCell ⟨G, 4, none⟩ (.slice ap b.length cap)) = W10 at *
          have HG9o := Lib.hid hg9
          have HH9o := Lib.hid hh9
          have HK9o := Lib.hid hk9
          have hl := HL.out (⟨2, A1, 0, 0, b⟩ : Deed) _ W10 ⟨by simp, HAV.out, by simp, by simp, HBL.out⟩ hk9 hdv
          have HDV := Lib.hid hdv
          have HTB := Lib.hid htb
          clear hg9 hh9 hk9 hdv htb HL
          by_cases hL : lineD (⟨2, A1, 0, 0, b⟩ : Deed) = s
          · have HRR := Lib.hid (show r = some (⟨2, A1, 0, 0, b⟩ : Deed) by have hr := HR.out; simpa [hL] using hr.symm)
            have hLe : (⟨(lineD (⟨2, A1, 0, 0, b⟩ : Deed)).toArray⟩ : ByteArray) = S := by rw [hL, HS.out]
            rw [hLe] at hl
            clear HR hL hLe
            refine hl.mono ?_
            rintro e w10 ⟨rfl, hk10⟩
            have HK10 := Lib.hid hk10
            have HH10 := Lib.hid (hk10.heap HH9o.out (fun h => h))
            have HG10 := Lib.hid (hk10.heap HG9o.out (fun h => h))
            clear hl hk10
            obtain ⟨y0, y1, y2, y3, y4⟩ := blk5 HG10.out
            have yf := fun i => frozenB HG10.out i
            obtain ⟨z0, z1, z2, z3, z4⟩ := blk5 HH10.out
            have zf := fun i => frozenB HH10.out i
            go_wp2_with fail
            refine bodyPost_ret (v := .tuple #[.agg #[.int .i64 2, .int .i64 A1, .int .i64 0, .int .u64 0, .slice ap b.length cap], .int .i64 0]) (results_cell_tmp (q := 3) (ty := 45) (ad := ⟨w.heap.size, 0, none⟩) rfl _ rfl (by go_simp)) rfl (some_end2 (D := (⟨2, A1, 0, 0, b⟩ : Deed)) HRR.out (HDV.out.kept HK10.out) rfl HNB.out (HTB.out.kept HK10.out) (HK9o.out.trans HK10.out) _ _ _ _ _)
          · have HRR := Lib.hid (show r = none by have hr := HR.out; simpa [hL] using hr.symm)
            obtain ⟨T, hT⟩ : ∃ T : ByteArray, T = ⟨(lineD (⟨2, A1, 0, 0, b⟩ : Deed)).toArray⟩ := ⟨_, rfl⟩
            have hse : ¬ (T = S) := fun h => hL (by rw [hT, HS.out] at h; simpa using h)
            have hse' : (T.toList == S.toList) = false := by
              rw [beq_eq_false_iff_ne, Go.ByteArray.toList_eq, Go.ByteArray.toList_eq]
              exact fun h => hse (ByteArray.ext (Array.ext' h))
            rw [← hT] at hl
            clear HR hL hT
            refine hl.mono ?_
            rintro e w10 ⟨rfl, hk10⟩
            have HK10 := Lib.hid (HK9o.out.trans hk10)
            have HH10 := Lib.hid (hk10.heap HH9o.out (fun h => h))
            have HG10 := Lib.hid (hk10.heap HG9o.out (fun h => h))
            clear hl hk10
            obtain ⟨y0, y1, y2, y3, y4⟩ := blk5 HG10.out
            have yf := fun i => frozenB HG10.out i
            obtain ⟨z0, z1, z2, z3, z4⟩ := blk5 HH10.out
            have zf := fun i => frozenB HH10.out i
            go_wp2_with fail
            refine bodyPost_ret (v := .tuple #[.agg #[.int .i64 0, .int .i64 0, .int .i64 0, .int .u64 0, .slice none 0 0], .int .i64 251]) (results_cell_tmp (q := 3) (ty := 45) (ad := ⟨w.heap.size, 0, none⟩) rfl _ rfl (by go_simp)) rfl (none_end HRR.out ?_)
            refine Kept.own5 ?_ (Nat.le_refl _) _ _ _ _ _
            exact HK10.out
      · have h3I : ¬ ((Y.length : Int) = 3) := by omega
        have hbI : ((Y.length : Int) == 3) = false := by rw [beq_eq_false_iff_ne]; exact h3I
        have hy : Y[2]? = none := List.getElem?_eq_none (by have := HYL.out.2; omega)
        have hr := HR.out
        rw [hy] at hr
        have HR2 := Lib.hid hr
        clear hr HR
        have HR := HR2
        clear HR2
        have HNB := Lib.hid (show ∀ k, vblk (.slice none 0 0) = some k → k ≠ w.heap.size from fun k hk => by cases hk)
        obtain ⟨y0, y1, y2, y3, y4⟩ := blk5 HG8.out
        have yf := fun i => frozenB HG8.out i
        obtain ⟨z0, z1, z2, z3, z4⟩ := blk5 HH8.out
        have zf := fun i => frozenB HH8.out i
        go_wp2_with fail
        clear y0 y1 y2 y3 y4 yf z0 z1 z2 z3 z4 zf
        have hg9 : w8.heap[G]? = some (.cells #[.int .i64 2, .int .i64 A1, .int .i64 0, .int .u64 0, .slice none 0 0] 45 (0, 0)) := by have := HG8.out; simpa using this
        have hh9 := HH8.out
        have hk9 := HK8.out
        have hdv : DeedV w8 (.agg #[.int .i64 2, .int .i64 A1, .int .i64 0, .int .u64 0, .slice none 0 0]) (⟨2, A1, 0, 0, []⟩ : Deed) := ⟨_, rfl, (BytesV.nil _)⟩
        have htb : TypedB w8 (.slice none 0 0) := (fun k hk => by cases hk)
        generalize w8 = W9 at *
        have HG9 := Lib.hid hg9
        have HH9 := Lib.hid hh9
        have HK9 := Lib.hid hk9
        have hl := HL.out (⟨2, A1, 0, 0, []⟩ : Deed) _ W9 ⟨by simp, HAV.out, by simp, by simp, by simp⟩ hk9 hdv
        have HDV := Lib.hid hdv
        have HTB := Lib.hid htb
        clear hg9 hh9 hk9 hdv htb HL
        by_cases hL : lineD (⟨2, A1, 0, 0, []⟩ : Deed) = s
        · have HRR := Lib.hid (show r = some (⟨2, A1, 0, 0, []⟩ : Deed) by have hr := HR.out; simpa [hL] using hr.symm)
          have hLe : (⟨(lineD (⟨2, A1, 0, 0, []⟩ : Deed)).toArray⟩ : ByteArray) = S := by rw [hL, HS.out]
          rw [hLe] at hl
          clear HR hL hLe
          refine hl.mono ?_
          rintro e w10 ⟨rfl, hk10⟩
          have HK10 := Lib.hid hk10
          have HH10 := Lib.hid (hk10.heap HH9.out (fun h => h))
          have HG10 := Lib.hid (hk10.heap HG9.out (fun h => h))
          clear hl hk10
          obtain ⟨y0, y1, y2, y3, y4⟩ := blk5 HG10.out
          have yf := fun i => frozenB HG10.out i
          obtain ⟨z0, z1, z2, z3, z4⟩ := blk5 HH10.out
          have zf := fun i => frozenB HH10.out i
          go_wp2_with fail
          refine bodyPost_ret (v := .tuple #[.agg #[.int .i64 2, .int .i64 A1, .int .i64 0, .int .u64 0, .slice none 0 0], .int .i64 0]) (results_cell_tmp (q := 3) (ty := 45) (ad := ⟨w.heap.size, 0, none⟩) rfl _ rfl (by go_simp)) rfl (some_end2 (D := (⟨2, A1, 0, 0, []⟩ : Deed)) HRR.out (HDV.out.kept HK10.out) rfl HNB.out (HTB.out.kept HK10.out) (HK9.out.trans HK10.out) _ _ _ _ _)
        · have HRR := Lib.hid (show r = none by have hr := HR.out; simpa [hL] using hr.symm)
          obtain ⟨T, hT⟩ : ∃ T : ByteArray, T = ⟨(lineD (⟨2, A1, 0, 0, []⟩ : Deed)).toArray⟩ := ⟨_, rfl⟩
          have hse : ¬ (T = S) := fun h => hL (by rw [hT, HS.out] at h; simpa using h)
          have hse' : (T.toList == S.toList) = false := by
            rw [beq_eq_false_iff_ne, Go.ByteArray.toList_eq, Go.ByteArray.toList_eq]
            exact fun h => hse (ByteArray.ext (Array.ext' h))
          rw [← hT] at hl
          clear HR hL hT
          refine hl.mono ?_
          rintro e w10 ⟨rfl, hk10⟩
          have HK10 := Lib.hid (HK9.out.trans hk10)
          have HH10 := Lib.hid (hk10.heap HH9.out (fun h => h))
          have HG10 := Lib.hid (hk10.heap HG9.out (fun h => h))
          clear hl hk10
          obtain ⟨y0, y1, y2, y3, y4⟩ := blk5 HG10.out
          have yf := fun i => frozenB HG10.out i
          obtain ⟨z0, z1, z2, z3, z4⟩ := blk5 HH10.out
          have zf := fun i => frozenB HH10.out i
          go_wp2_with fail
          refine bodyPost_ret (v := .tuple #[.agg #[.int .i64 0, .int .i64 0, .int .i64 0, .int .u64 0, .slice none 0 0], .int .i64 251]) (results_cell_tmp (q := 3) (ty := 45) (ad := ⟨w.heap.size, 0, none⟩) rfl _ rfl (by go_simp)) rfl (none_end HRR.out ?_)
          refine Kept.own5 ?_ (Nat.le_refl _) _ _ _ _ _
          exact HK10.out
end Go.Proofs.YtdinkdmkbfbjbaaGreatDoor
namespace Go.Proofs.YtdinkdmkbfbjbaaGreatDoor
open Go.RowKit
attribute [local go_sem] fold_part fold_some fold_some' partAt_zero

set_option maxRecDepth 100000 in
set_option maxHeartbeats 3200000 in
theorem rparse3 (s : Bs) (hs : s.length ≤ 9000) (w : World) (hV : Vs w) (hx : (wordsF 4 [] s).getD 0 [] = [117, 112]) :
    Calls Tryz.prog 14 #[.string ⟨s.toArray⟩] w (ParseEnd (parseR s) w) := by
  have c5 : ∀ W, Calls Tryz.prog 11 #[.string ⟨s.toArray⟩, .int .i64 5] W fun e w' => ∃ v, e = .returned v ∧ OwnS w' W.heap.size v (wordsF 4 [] s) ∧ Kept NoBlock W w' := fun W => rwords s (by omega) 5 (by decide) W
  have c3 : ∀ W, Calls Tryz.prog 11 #[.string ⟨s.toArray⟩, .int .i64 3] W fun e w' => ∃ v, e = .returned v ∧ OwnS w' W.heap.size v (wordsF 2 [] s) ∧ Kept NoBlock W w' := fun W => rwords s (by omega) 3 (by decide) W
  have hwl : ∀ i, ((wordsF 4 [] s).getD i []).length ≤ 9000 := fun i => by
    rw [List.getD_eq_getElem?_getD]
    cases h : (wordsF 4 [] s)[i]? with
    | none => simp
    | some x => have := words_len s 4 [] x (List.mem_of_getElem? h); simp only [List.length_nil, Option.getD_some] at this ⊢; omega
  have hw2 : ∀ x, (wordsF 2 [] s)[2]? = some x → x.length ≤ 9000 := fun x hx => by
    have := words_len s 2 [] x (List.mem_of_getElem? hx)
    simp only [List.length_nil] at this
    omega
  have cs1 := fun W => rsigned ((wordsF 4 [] s).getD 1 []) (by have := hwl 1; omega) W
  have cs2 := fun W => rsigned ((wordsF 4 [] s).getD 2 []) (by have := hwl 2; omega) W
  have cb3 := fun W => rbig ((wordsF 4 [] s).getD 3 []) (by have := hwl 3; omega) W
  have cb2 := fun W => rbig ((wordsF 4 [] s).getD 2 []) (by have := hwl 2; omega) W
  have cu := fun x W (hx : (wordsF 2 [] s)[2]? = some x) => runq x (by have := hw2 x hx; omega) W
  have cub := fun x b (hx : (wordsF 2 [] s)[2]? = some x) (hb : unq x = .ok b) => (show b.length ≤ 9000 by have := hw2 x hx; have := unq_blen hb; omega)
  have cl := fun D v W (hf : Deed.Fits D) (hk : Kept NoBlock w W) (h : DeedV W v D) => rline v D W h hf
  have hav := refV_in ((wordsF 4 [] s).getD 1 [])
  have hnv := refV_in ((wordsF 4 [] s).getD 2 [])
  have hb3 := bigV_lt ((wordsF 4 [] s).getD 3 [])
  have hb2 := bigV_lt ((wordsF 4 [] s).getD 2 [])
  have hwn := wordsF_len s 4 []
  have hyl := wordsF_len s 2 []
  generalize hr : parseR s = r
  unfold parseR candR at hr
  generalize wordsF 2 [] s = Y at *
  generalize hW : wordsF 4 [] s = Wd at *
  generalize hx1 : Wd.getD 1 [] = x1 at *
  generalize hx2 : Wd.getD 2 [] = x2 at *
  generalize hx3 : Wd.getD 3 [] = x3 at *
  generalize (refV x1).1 = A1 at *
  generalize (refV x2).1 = N1 at *
  generalize bigV x3 = B3 at *
  generalize bigV x2 = B2 at *
  rw [hx] at hr
  obtain ⟨S, hS⟩ : ∃ S : ByteArray, S = ⟨s.toArray⟩ := ⟨_, rfl⟩
  rw [← hS] at c5 c3 ⊢
  have H5 := Lib.hid c5
  have H3 := Lib.hid c3
  have HS1 := Lib.hid cs1
  have HS2 := Lib.hid cs2
  have HB3 := Lib.hid cb3
  have HB2 := Lib.hid cb2
  have HU := Lib.hid cu
  have HUB := Lib.hid cub
  have HL := Lib.hid cl
  have HAV := Lib.hid hav
  have HNV := Lib.hid hnv
  have HL3 := Lib.hid hb3
  have HL2 := Lib.hid hb2
  have HWN := Lib.hid hwn
  have HYL := Lib.hid hyl
  have HR := Lib.hid hr
  have HS := Lib.hid hS
  have HX := Lib.hid hx
  have HX1 := Lib.hid hx1
  have HX2 := Lib.hid hx2
  have HX3 := Lib.hid hx3
  clear c5 c3 cs1 cs2 cb3 cb2 cu cub cl hav hnv hb3 hb2 hwn hyl hr hS hx hx1 hx2 hx3 hW hwl hw2 hV hs
  have HK1 := Lib.hid (Kept.allocd w (.cells #[.int .i64 0, .int .i64 0, .int .i64 0, .int .u64 0, .slice none 0 0] 45))
  have HH1 := Lib.hid (heap_alloc_new w (.cells #[.int .i64 0, .int .i64 0, .int .i64 0, .int .u64 0, .slice none 0 0] 45))
  go_enter Tryz.func14, Tryz.ntmps14
  go_wp2_with fail
  generalize w.alloc (.cells #[.int .i64 0, .int .i64 0, .int .i64 0, .int .u64 0, .slice none 0 0] 45) = W1 at *
  have hlt1 := lt_of_heap HH1.out
  refine (H5.out _).mono ?_
  rintro e w2 ⟨v, rfl, ho, hk⟩
  have hw12 := hk.size
  have HO2b := Lib.hid ho
  have HK2 := Lib.hid (HK1.out.trans hk)
  have HH2 := Lib.hid (hk.heap HH1.out (fun h => h))
  clear hk ho
  go_wp2_with fail
  go_loopw [4] (fun vo wr => ∃ (L : List Bs), OwnS wr W1.heap.size vo L ∧ L.length ≤ 5 ∧ (∀ i, L.getD i [] = Wd.getD i []) ∧ Kept NoBlock w wr ∧ W1.heap.size ≤ wr.heap.size ∧ wr.heap[w.heap.size]? = some (.cells #[.int .i64 0, .int .i64 0, .int .i64 0, .int .u64 0, .slice none 0 0] 45 (0, 0))) (fun vo _ => 5 - lenOf vo)
  case atStart => exact ⟨Wd, HO2b.out, HWN.out.2, fun _ => rfl, HK2.out, hw12, HH2.out⟩
  case round =>
    obtain ⟨L, ho, h5, hgd, hk, hbase, hh⟩ := hrel
    clear HO2b HK2 HH2
    have HO := Lib.hid ho
    have HGD := Lib.hid hgd
    have HK := Lib.hid hk
    have HH := Lib.hid hh
    have hsz := hk.size
    by_cases hlt : L.length < 5
    · obtain ⟨ap, cap, rfl, _⟩ := OwnM.form ho
      have hlI : (L.length : Int) < 5 := by omega
      clear ho hgd hk hh
      go_wp2_with (at_builtin; refine wpList_appS rfl _ _ (by rfl) W1.heap.size _ L (by rfl) (OwnM.alloc HO.out _) wr.heap.size [] (by rfl) (heap_alloc_new wr _) (by omega) (by simp; omega) ?_; intro v3 w3 hown3 hg3; refine Hid.out ?_)
      have HK3 := Lib.hid (Kept.app (HK.out.trans (Kept.allocd wr _)) (OwnM.alloc HO.out _) (Nat.le_of_lt hlt1) hg3)
      have hsz3 : W1.heap.size ≤ w3.heap.size := by have := hg3.size; simp at this; omega
      have HH3 := Lib.hid (show w3.heap[w.heap.size]? = some (.cells #[.int .i64 0, .int .i64 0, .int .i64 0, .int .u64 0, .slice none 0 0] 45 (0, 0)) from by
        rw [hg3.block w.heap.size (by simp; omega) (fun e => by have := (OwnM.alloc (o := .cells #[.string ⟨#[]⟩] 9) HO.out).lt _ e.symm; omega)]
        exact (Kept.allocd wr _).heap HH.out (fun h => h))
      have HO3 := Lib.hid hown3
      obtain ⟨ap3, cap3, hv3, _⟩ := OwnM.form hown3
      have hgd3 : ∀ i, (L ++ [[]]).getD i [] = Wd.getD i [] := fun i => by
        rw [← HGD.out i, List.getD_eq_getElem?_getD, List.getD_eq_getElem?_getD, List.getElem?_append]
        split
        · rfl
        · rename_i hi
          rw [List.getElem?_eq_none (show L.length ≤ i by omega)]
          cases h : i - L.length <;> simp
      have HGD3 := Lib.hid hgd3
      subst hv3
      clear hown3 hg3 hgd3
      refine Lib.hid ?_
      go_wp2
      go_roundw
      case rel => exact ⟨L ++ [[]], HO3.out, by rw [List.length_append, List.length_singleton]; omega, HGD3.out, HK3.out, hsz3, HH3.out⟩
      case measure => simp [lenOf]; omega
    · obtain h5' : L.length = 5 := by omega
      obtain ⟨g, cap, rfl, hbg, _, hf⟩ := five_of ho h5' hgd
      rw [HX.out, HX1.out, HX2.out, HX3.out] at hf
      have hgl := cell_lt hf.c0
      simp only at hgl
      have hne : ¬ (g = w.heap.size) := by omega
      have HF := Lib.hid hf
      obtain ⟨f0, f1, f2, f3⟩ := hf
      unfold strV at f0 f1 f2 f3
      clear ho hgd hk hh HGD HO
      go_wp2_with fail
      refine (HS1.out _).mono ?_
      rintro e w3 ⟨rfl, rfl⟩
      obtain ⟨z0, z1, z2, z3, z4⟩ := blk5 HH.out
      have zf := fun i => frozenB HH.out i
      have hGH : w.heap.size < wr.heap.size := lt_of_heap HH.out
      have hne1 : ¬ (wr.heap.size = w.heap.size) := by omega
      have hne2 : ¬ (w.heap.size = wr.heap.size) := by omega
      have hne3 : ¬ (g = wr.heap.size) := by omega
      have hne4 : ¬ (wr.heap.size = g) := by omega
      go_wp2_with fail
      clear z0 z1 z2 z3 z4 zf f0 f1 f2 f3
      have hk7 := HK.out.alloc (.cells #[.int .i64 0, .int .i64 A1, .int .i64 0, .int .u64 0, .slice none 0 0] 45)
      have hg7 := heap_alloc_new wr (.cells #[.int .i64 0, .int .i64 A1, .int .i64 0, .int .u64 0, .slice none 0 0] 45)
      have hh7 := (Kept.allocd wr (.cells #[.int .i64 0, .int .i64 A1, .int .i64 0, .int .u64 0, .slice none 0 0] 45)).heap HH.out (fun h => h)
      have hf7 := HF.out.kept (Kept.allocd wr (.cells #[.int .i64 0, .int .i64 A1, .int .i64 0, .int .u64 0, .slice none 0 0] 45))
      generalize wr.heap.size = G at *
      generalize wr.alloc (.cells #[.int .i64 0, .int .i64 A1, .int .i64 0, .int .u64 0, .slice none 0 0] 45) = W7 at *
      have HK7 := Lib.hid hk7
      have HG7 := Lib.hid hg7
      have HH7 := Lib.hid hh7
      have HF7 := Lib.hid hf7
      clear hk7 hg7 hh7 hf7 HK HF HH
      obtain ⟨f0, f1, f2, f3⟩ := HF7.out
      unfold strV at f0 f1 f2 f3
      obtain ⟨y0, y1, y2, y3, y4⟩ := blk5 HG7.out
      have yf := fun i => frozenB HG7.out i
      refine wp_planC (fun W => W.cell? ⟨g, 3, none⟩ = some (.string ⟨x3.toArray⟩)) 13 [.flt 4, .flt 5, .flt 6, .flt 8, .seg [0, 1, 2] 3, .seg [] 7, .seg [] 9, .seg [10] 11, .seg [12] 13] [] (by kernel_rfl) (by kernel_rfl) (fun _ _ _ dst _ h => by cases dst <;> exact h) (fun _ _ h => h) f3 (fun n0 => ?_)
      simp only [wpPlanC, pick, List.filterMap_cons, List.filterMap_nil, List.getElem?_cons_succ, List.getElem?_cons_zero]
      iterate 4 (refine wpFloat_ex rfl ?_; apply Exists.intro; refine ⟨fun w' hw' => ?_, ?_⟩; (go_simp; first | rfl | exact ⟨rfl, rfl⟩); simp only [Act.put, List.setIfInBounds_toArray, List.set_cons_succ, List.set_cons_zero])
      repeat (quiet_step (fail))
      refine wpQuiet_nil ?_
      rintro _ ⟨n1, rfl⟩
      go_wp2_with fail
      refine (HS2.out _).mono ?_
      rintro e w8 ⟨rfl, rfl⟩
      go_wp2_with fail
      refine Halt.mk ⟨.inr f3, ?_⟩
      go_wp2_with fail
      refine (HB3.out _).mono ?_
      rintro e w8 ⟨rfl, rfl⟩
      go_wp2_with fail
      refine Halt.mk ⟨.inr f3, ?_⟩
      go_wp2_with fail
      refine Halt.mk ⟨.inr (cell_set_ne f3 hne3), ?_⟩
      repeat (quiet_step (fail))
      refine wpQuiet_nil ?_
      rintro _ ⟨n2, rfl⟩
      go_wp2_with fail
      refine Halt.mk ⟨.inr (cell_set_ne (cell_set_ne f3 hne3) hne3), ?_⟩
      repeat (quiet_step (fail))
      refine wpQuiet_nil ?_
      rintro _ ⟨n3, rfl⟩
      go_wp2_with fail
      refine Halt.mk ⟨.inl trivial, ?_⟩
      go_wp2_with fail
      have hg9 : ((((((W7.drewN (n0 + n1)).setCell ⟨G, 0, none⟩ (.int .i64 3)).drewN n2).setCell ⟨G, 2, none⟩ (.int .i64 N1)).drewN n3).setCell ⟨G, 3, none⟩ (.int .u64 (B3 : Nat))).heap[G]? = some (.cells #[.int .i64 3, .int .i64 A1, .int .i64 N1, .int .u64 (B3 : Nat), .slice none 0 0] 45 (0, 0)) := by have := heap_setCell_same (w := ((((W7.drewN (n0 + n1)).setCell ⟨G, 0, none⟩ (.int .i64 3)).drewN n2).setCell ⟨G, 2, none⟩ (.int .i64 N1)).drewN n3) (heap_setCell_same (w := ((W7.drewN (n0 + n1)).setCell ⟨G, 0, none⟩ (.int .i64 3)).drewN n2) (heap_setCell_same (w := (W7.drewN (n0 + n1))) HG7.out 0 (.int .i64 3)) 2 (.int .i64 N1)) 3 (.int .u64 (B3 : Nat)); simpa using this
      have hh9 : ((((((W7.drewN (n0 + n1)).setCell ⟨G, 0, none⟩ (.int .i64 3)).drewN n2).setCell ⟨G, 2, none⟩ (.int .i64 N1)).drewN n3).setCell ⟨G, 3, none⟩ (.int .u64 (B3 : Nat))).heap[w.heap.size]? = some (.cells #[.int .i64 0, .int .i64 0, .int .i64 0, .int .u64 0, .slice none 0 0] 45 (0, 0)) := heap_set_ne (w := ((((W7.drewN (n0 + n1)).setCell ⟨G, 0, none⟩ (.int .i64 3)).drewN n2).setCell ⟨G, 2, none⟩ (.int .i64 N1)).drewN n3) (heap_set_ne (w := ((W7.drewN (n0 + n1)).setCell ⟨G, 0, none⟩ (.int .i64 3)).drewN n2) (heap_set_ne (w := (W7.drewN (n0 + n1))) HH7.out hne2) hne2) hne2
      have hk9 := ((((((HK7.out.drewN (n0 + n1)).own (g := G) (Nat.le_of_lt hGH) 0 (.int .i64 3)).drewN n2).own (g := G) (Nat.le_of_lt hGH) 2 (.int .i64 N1)).drewN n3).own (g := G) (Nat.le_of_lt hGH) 3 (.int .u64 (B3 : Nat)))
      clear y0 y1 y2 y3 y4 yf f0 f1 f2 f3
      generalize ((((((W7.drewN (n0 + n1)).setCell ⟨G, 0, none⟩ (.int .i64 3)).drewN n2).setCell ⟨G, 2, none⟩ (.int .i64 N1)).drewN n3).setCell ⟨G, 3, none⟩ (.int .u64 (B3 : Nat))) = W8 at *
      have HK8 := Lib.hid hk9
      have HG8 := Lib.hid hg9
      have HH8 := Lib.hid hh9
      clear hk9 hg9 hh9
      have HNB := Lib.hid (show ∀ k, vblk (.slice none 0 0) = some k → k ≠ w.heap.size from fun k hk => by cases hk)
      have hg9 : W8.heap[G]? = some (.cells #[.int .i64 3, .int .i64 A1, .int .i64 N1, .int .u64 (B3 : Nat), .slice none 0 0] 45 (0, 0)) := by have := HG8.out; simpa using this
      have hh9 := HH8.out
      have hk9 := HK8.out
      have hdv : DeedV W8 (.agg #[.int .i64 3, .int .i64 A1, .int .i64 N1, .int .u64 (B3 : Nat), .slice none 0 0]) (⟨3, A1, N1, B3, []⟩ : Deed) := ⟨_, rfl, (BytesV.nil _)⟩
      have htb : TypedB W8 (.slice none 0 0) := (fun k hk => by cases hk)
      generalize W8 = W9 at *
      have HG9 := Lib.hid hg9
      have HH9 := Lib.hid hh9
      have HK9 := Lib.hid hk9
      have hl := HL.out (⟨3, A1, N1, B3, []⟩ : Deed) _ W9 ⟨by simp, HAV.out, HNV.out, HL3.out, by simp⟩ hk9 hdv
      have HDV := Lib.hid hdv
      have HTB := Lib.hid htb
      clear hg9 hh9 hk9 hdv htb HL
      by_cases hL : lineD (⟨3, A1, N1, B3, []⟩ : Deed) = s
      · have HRR := Lib.hid (show r = some (⟨3, A1, N1, B3, []⟩ : Deed) by have hr := HR.out; simpa [hL] using hr.symm)
        have hLe : (⟨(lineD (⟨3, A1, N1, B3, []⟩ : Deed)).toArray⟩ : ByteArray) = S := by rw [hL, HS.out]
        rw [hLe] at hl
        clear HR hL hLe
        refine hl.mono ?_
        rintro e w10 ⟨rfl, hk10⟩
        have HK10 := Lib.hid hk10
        have HH10 := Lib.hid (hk10.heap HH9.out (fun h => h))
        have HG10 := Lib.hid (hk10.heap HG9.out (fun h => h))
        clear hl hk10
        obtain ⟨y0, y1, y2, y3, y4⟩ := blk5 HG10.out
        have yf := fun i => frozenB HG10.out i
        obtain ⟨z0, z1, z2, z3, z4⟩ := blk5 HH10.out
        have zf := fun i => frozenB HH10.out i
        go_wp2_with fail
        refine bodyPost_ret (v := .tuple #[.agg #[.int .i64 3, .int .i64 A1, .int .i64 N1, .int .u64 (B3 : Nat), .slice none 0 0], .int .i64 0]) (results_cell_tmp (q := 3) (ty := 45) (ad := ⟨w.heap.size, 0, none⟩) rfl _ rfl (by go_simp)) rfl (some_end2 (D := (⟨3, A1, N1, B3, []⟩ : Deed)) HRR.out (HDV.out.kept HK10.out) rfl HNB.out (HTB.out.kept HK10.out) (HK9.out.trans HK10.out) _ _ _ _ _)
      · have HRR := Lib.hid (show r = none by have hr := HR.out; simpa [hL] using hr.symm)
        obtain ⟨T, hT⟩ : ∃ T : ByteArray, T = ⟨(lineD (⟨3, A1, N1, B3, []⟩ : Deed)).toArray⟩ := ⟨_, rfl⟩
        have hse : ¬ (T = S) := fun h => hL (by rw [hT, HS.out] at h; simpa using h)
        have hse' : (T.toList == S.toList) = false := by
          rw [beq_eq_false_iff_ne, Go.ByteArray.toList_eq, Go.ByteArray.toList_eq]
          exact fun h => hse (ByteArray.ext (Array.ext' h))
        rw [← hT] at hl
        clear HR hL hT
        refine hl.mono ?_
        rintro e w10 ⟨rfl, hk10⟩
        have HK10 := Lib.hid (HK9.out.trans hk10)
        have HH10 := Lib.hid (hk10.heap HH9.out (fun h => h))
        have HG10 := Lib.hid (hk10.heap HG9.out (fun h => h))
        clear hl hk10
        obtain ⟨y0, y1, y2, y3, y4⟩ := blk5 HG10.out
        have yf := fun i => frozenB HG10.out i
        obtain ⟨z0, z1, z2, z3, z4⟩ := blk5 HH10.out
        have zf := fun i => frozenB HH10.out i
        go_wp2_with fail
        refine bodyPost_ret (v := .tuple #[.agg #[.int .i64 0, .int .i64 0, .int .i64 0, .int .u64 0, .slice none 0 0], .int .i64 251]) (results_cell_tmp (q := 3) (ty := 45) (ad := ⟨w.heap.size, 0, none⟩) rfl _ rfl (by go_simp)) rfl (none_end HRR.out ?_)
        refine Kept.own5 ?_ (Nat.le_refl _) _ _ _ _ _
        exact HK10.out
end Go.Proofs.YtdinkdmkbfbjbaaGreatDoor
namespace Go.Proofs.YtdinkdmkbfbjbaaGreatDoor
open Go.RowKit
attribute [local go_sem] fold_part fold_some fold_some' partAt_zero

set_option maxRecDepth 100000 in
set_option maxHeartbeats 3200000 in
theorem rparse4 (s : Bs) (hs : s.length ≤ 9000) (w : World) (hV : Vs w) (hx : (wordsF 4 [] s).getD 0 [] = [100, 111, 119, 110]) :
    Calls Tryz.prog 14 #[.string ⟨s.toArray⟩] w (ParseEnd (parseR s) w) := by
  have c5 : ∀ W, Calls Tryz.prog 11 #[.string ⟨s.toArray⟩, .int .i64 5] W fun e w' => ∃ v, e = .returned v ∧ OwnS w' W.heap.size v (wordsF 4 [] s) ∧ Kept NoBlock W w' := fun W => rwords s (by omega) 5 (by decide) W
  have c3 : ∀ W, Calls Tryz.prog 11 #[.string ⟨s.toArray⟩, .int .i64 3] W fun e w' => ∃ v, e = .returned v ∧ OwnS w' W.heap.size v (wordsF 2 [] s) ∧ Kept NoBlock W w' := fun W => rwords s (by omega) 3 (by decide) W
  have hwl : ∀ i, ((wordsF 4 [] s).getD i []).length ≤ 9000 := fun i => by
    rw [List.getD_eq_getElem?_getD]
    cases h : (wordsF 4 [] s)[i]? with
    | none => simp
    | some x => have := words_len s 4 [] x (List.mem_of_getElem? h); simp only [List.length_nil, Option.getD_some] at this ⊢; omega
  have hw2 : ∀ x, (wordsF 2 [] s)[2]? = some x → x.length ≤ 9000 := fun x hx => by
    have := words_len s 2 [] x (List.mem_of_getElem? hx)
    simp only [List.length_nil] at this
    omega
  have cs1 := fun W => rsigned ((wordsF 4 [] s).getD 1 []) (by have := hwl 1; omega) W
  have cs2 := fun W => rsigned ((wordsF 4 [] s).getD 2 []) (by have := hwl 2; omega) W
  have cb3 := fun W => rbig ((wordsF 4 [] s).getD 3 []) (by have := hwl 3; omega) W
  have cb2 := fun W => rbig ((wordsF 4 [] s).getD 2 []) (by have := hwl 2; omega) W
  have cu := fun x W (hx : (wordsF 2 [] s)[2]? = some x) => runq x (by have := hw2 x hx; omega) W
  have cub := fun x b (hx : (wordsF 2 [] s)[2]? = some x) (hb : unq x = .ok b) => (show b.length ≤ 9000 by have := hw2 x hx; have := unq_blen hb; omega)
  have cl := fun D v W (hf : Deed.Fits D) (hk : Kept NoBlock w W) (h : DeedV W v D) => rline v D W h hf
  have hav := refV_in ((wordsF 4 [] s).getD 1 [])
  have hnv := refV_in ((wordsF 4 [] s).getD 2 [])
  have hb3 := bigV_lt ((wordsF 4 [] s).getD 3 [])
  have hb2 := bigV_lt ((wordsF 4 [] s).getD 2 [])
  have hwn := wordsF_len s 4 []
  have hyl := wordsF_len s 2 []
  generalize hr : parseR s = r
  unfold parseR candR at hr
  generalize wordsF 2 [] s = Y at *
  generalize hW : wordsF 4 [] s = Wd at *
  generalize hx1 : Wd.getD 1 [] = x1 at *
  generalize hx2 : Wd.getD 2 [] = x2 at *
  generalize hx3 : Wd.getD 3 [] = x3 at *
  generalize (refV x1).1 = A1 at *
  generalize (refV x2).1 = N1 at *
  generalize bigV x3 = B3 at *
  generalize bigV x2 = B2 at *
  rw [hx] at hr
  obtain ⟨S, hS⟩ : ∃ S : ByteArray, S = ⟨s.toArray⟩ := ⟨_, rfl⟩
  rw [← hS] at c5 c3 ⊢
  have H5 := Lib.hid c5
  have H3 := Lib.hid c3
  have HS1 := Lib.hid cs1
  have HS2 := Lib.hid cs2
  have HB3 := Lib.hid cb3
  have HB2 := Lib.hid cb2
  have HU := Lib.hid cu
  have HUB := Lib.hid cub
  have HL := Lib.hid cl
  have HAV := Lib.hid hav
  have HNV := Lib.hid hnv
  have HL3 := Lib.hid hb3
  have HL2 := Lib.hid hb2
  have HWN := Lib.hid hwn
  have HYL := Lib.hid hyl
  have HR := Lib.hid hr
  have HS := Lib.hid hS
  have HX := Lib.hid hx
  have HX1 := Lib.hid hx1
  have HX2 := Lib.hid hx2
  have HX3 := Lib.hid hx3
  clear c5 c3 cs1 cs2 cb3 cb2 cu cub cl hav hnv hb3 hb2 hwn hyl hr hS hx hx1 hx2 hx3 hW hwl hw2 hV hs
  have HK1 := Lib.hid (Kept.allocd w (.cells #[.int .i64 0, .int .i64 0, .int .i64 0, .int .u64 0, .slice none 0 0] 45))
  have HH1 := Lib.hid (heap_alloc_new w (.cells #[.int .i64 0, .int .i64 0, .int .i64 0, .int .u64 0, .slice none 0 0] 45))
  go_enter Tryz.func14, Tryz.ntmps14
  go_wp2_with fail
  generalize w.alloc (.cells #[.int .i64 0, .int .i64 0, .int .i64 0, .int .u64 0, .slice none 0 0] 45) = W1 at *
  have hlt1 := lt_of_heap HH1.out
  refine (H5.out _).mono ?_
  rintro e w2 ⟨v, rfl, ho, hk⟩
  have hw12 := hk.size
  have HO2b := Lib.hid ho
  have HK2 := Lib.hid (HK1.out.trans hk)
  have HH2 := Lib.hid (hk.heap HH1.out (fun h => h))
  clear hk ho
  go_wp2_with fail
  go_loopw [4] (fun vo wr => ∃ (L : List Bs), OwnS wr W1.heap.size vo L ∧ L.length ≤ 5 ∧ (∀ i, L.getD i [] = Wd.getD i []) ∧ Kept NoBlock w wr ∧ W1.heap.size ≤ wr.heap.size ∧ wr.heap[w.heap.size]? = some (.cells #[.int .i64 0, .int .i64 0, .int .i64 0, .int .u64 0, .slice none 0 0] 45 (0, 0))) (fun vo _ => 5 - lenOf vo)
  case atStart => exact ⟨Wd, HO2b.out, HWN.out.2, fun _ => rfl, HK2.out, hw12, HH2.out⟩
  case round =>
    obtain ⟨L, ho, h5, hgd, hk, hbase, hh⟩ := hrel
    clear HO2b HK2 HH2
    have HO := Lib.hid ho
    have HGD := Lib.hid hgd
    have HK := Lib.hid hk
    have HH := Lib.hid hh
    have hsz := hk.size
    by_cases hlt : L.length < 5
    · obtain ⟨ap, cap, rfl, _⟩ := OwnM.form ho
      have hlI : (L.length : Int) < 5 := by omega
      clear ho hgd hk hh
      go_wp2_with (at_builtin; refine wpList_appS rfl _ _ (by rfl) W1.heap.size _ L (by rfl) (OwnM.alloc HO.out _) wr.heap.size [] (by rfl) (heap_alloc_new wr _) (by omega) (by simp; omega) ?_; intro v3 w3 hown3 hg3; refine Hid.out ?_)
      have HK3 := Lib.hid (Kept.app (HK.out.trans (Kept.allocd wr _)) (OwnM.alloc HO.out _) (Nat.le_of_lt hlt1) hg3)
      have hsz3 : W1.heap.size ≤ w3.heap.size := by have := hg3.size; simp at this; omega
      have HH3 := Lib.hid (show w3.heap[w.heap.size]? = some (.cells #[.int .i64 0, .int .i64 0, .int .i64 0, .int .u64 0, .slice none 0 0] 45 (0, 0)) from by
        rw [hg3.block w.heap.size (by simp; omega) (fun e => by have := (OwnM.alloc (o := .cells #[.string ⟨#[]⟩] 9) HO.out).lt _ e.symm; omega)]
        exact (Kept.allocd wr _).heap HH.out (fun h => h))
      have HO3 := Lib.hid hown3
      obtain ⟨ap3, cap3, hv3, _⟩ := OwnM.form hown3
      have hgd3 : ∀ i, (L ++ [[]]).getD i [] = Wd.getD i [] := fun i => by
        rw [← HGD.out i, List.getD_eq_getElem?_getD, List.getD_eq_getElem?_getD, List.getElem?_append]
        split
        · rfl
        · rename_i hi
          rw [List.getElem?_eq_none (show L.length ≤ i by omega)]
          cases h : i - L.length <;> simp
      have HGD3 := Lib.hid hgd3
      subst hv3
      clear hown3 hg3 hgd3
      refine Lib.hid ?_
      go_wp2
      go_roundw
      case rel => exact ⟨L ++ [[]], HO3.out, by rw [List.length_append, List.length_singleton]; omega, HGD3.out, HK3.out, hsz3, HH3.out⟩
      case measure => simp [lenOf]; omega
    · obtain h5' : L.length = 5 := by omega
      obtain ⟨g, cap, rfl, hbg, _, hf⟩ := five_of ho h5' hgd
      rw [HX.out, HX1.out, HX2.out, HX3.out] at hf
      have hgl := cell_lt hf.c0
      simp only at hgl
      have hne : ¬ (g = w.heap.size) := by omega
      have HF := Lib.hid hf
      obtain ⟨f0, f1, f2, f3⟩ := hf
      unfold strV at f0 f1 f2 f3
      clear ho hgd hk hh HGD HO
      go_wp2_with fail
      refine (HS1.out _).mono ?_
      rintro e w3 ⟨rfl, rfl⟩
      obtain ⟨z0, z1, z2, z3, z4⟩ := blk5 HH.out
      have zf := fun i => frozenB HH.out i
      have hGH : w.heap.size < wr.heap.size := lt_of_heap HH.out
      have hne1 : ¬ (wr.heap.size = w.heap.size) := by omega
      have hne2 : ¬ (w.heap.size = wr.heap.size) := by omega
      have hne3 : ¬ (g = wr.heap.size) := by omega
      have hne4 : ¬ (wr.heap.size = g) := by omega
      go_wp2_with fail
      refine (HS2.out _).mono ?_
      rintro e w4 ⟨rfl, rfl⟩
      go_wp2_with fail
      clear z0 z1 z2 z3 z4 zf f0 f1 f2 f3
      have hk7 := HK.out.alloc (.cells #[.int .i64 4, .int .i64 A1, .int .i64 N1, .int .u64 0, .slice none 0 0] 45)
      have hg7 := heap_alloc_new wr (.cells #[.int .i64 4, .int .i64 A1, .int .i64 N1, .int .u64 0, .slice none 0 0] 45)
      have hh7 := (Kept.allocd wr (.cells #[.int .i64 4, .int .i64 A1, .int .i64 N1, .int .u64 0, .slice none 0 0] 45)).heap HH.out (fun h => h)
      have hf7 := HF.out.kept (Kept.allocd wr (.cells #[.int .i64 4, .int .i64 A1, .int .i64 N1, .int .u64 0, .slice none 0 0] 45))
      generalize wr.heap.size = G at *
      generalize wr.alloc (.cells #[.int .i64 4, .int .i64 A1, .int .i64 N1, .int .u64 0, .slice none 0 0] 45) = W7 at *
      have HK7 := Lib.hid hk7
      have HG7 := Lib.hid hg7
      have HH7 := Lib.hid hh7
      have HF7 := Lib.hid hf7
      clear hk7 hg7 hh7 hf7 HK HF HH
      have HNB := Lib.hid (show ∀ k, vblk (.slice none 0 0) = some k → k ≠ w.heap.size from fun k hk => by cases hk)
      have hg9 : W7.heap[G]? = some (.cells #[.int .i64 4, .int .i64 A1, .int .i64 N1, .int .u64 0, .slice none 0 0] 45 (0, 0)) := by have := HG7.out; simpa using this
      have hh9 := HH7.out
      have hk9 := HK7.out
      have hdv : DeedV W7 (.agg #[.int .i64 4, .int .i64 A1, .int .i64 N1, .int .u64 0, .slice none 0 0]) (⟨4, A1, N1, 0, []⟩ : Deed) := ⟨_, rfl, (BytesV.nil _)⟩
      have htb : TypedB W7 (.slice none 0 0) := (fun k hk => by cases hk)
      generalize W7 = W9 at *
      have HG9 := Lib.hid hg9
      have HH9 := Lib.hid hh9
      have HK9 := Lib.hid hk9
      have hl := HL.out (⟨4, A1, N1, 0, []⟩ : Deed) _ W9 ⟨by simp, HAV.out, HNV.out, by simp, by simp⟩ hk9 hdv
      have HDV := Lib.hid hdv
      have HTB := Lib.hid htb
      clear hg9 hh9 hk9 hdv htb HL
      by_cases hL : lineD (⟨4, A1, N1, 0, []⟩ : Deed) = s
      · have HRR := Lib.hid (show r = some (⟨4, A1, N1, 0, []⟩ : Deed) by have hr := HR.out; simpa [hL] using hr.symm)
        have hLe : (⟨(lineD (⟨4, A1, N1, 0, []⟩ : Deed)).toArray⟩ : ByteArray) = S := by rw [hL, HS.out]
        rw [hLe] at hl
        clear HR hL hLe
        refine hl.mono ?_
        rintro e w10 ⟨rfl, hk10⟩
        have HK10 := Lib.hid hk10
        have HH10 := Lib.hid (hk10.heap HH9.out (fun h => h))
        have HG10 := Lib.hid (hk10.heap HG9.out (fun h => h))
        clear hl hk10
        obtain ⟨y0, y1, y2, y3, y4⟩ := blk5 HG10.out
        have yf := fun i => frozenB HG10.out i
        obtain ⟨z0, z1, z2, z3, z4⟩ := blk5 HH10.out
        have zf := fun i => frozenB HH10.out i
        go_wp2_with fail
        refine bodyPost_ret (v := .tuple #[.agg #[.int .i64 4, .int .i64 A1, .int .i64 N1, .int .u64 0, .slice none 0 0], .int .i64 0]) (results_cell_tmp (q := 3) (ty := 45) (ad := ⟨w.heap.size, 0, none⟩) rfl _ rfl (by go_simp)) rfl (some_end2 (D := (⟨4, A1, N1, 0, []⟩ : Deed)) HRR.out (HDV.out.kept HK10.out) rfl HNB.out (HTB.out.kept HK10.out) (HK9.out.trans HK10.out) _ _ _ _ _)
      · have HRR := Lib.hid (show r = none by have hr := HR.out; simpa [hL] using hr.symm)
        obtain ⟨T, hT⟩ : ∃ T : ByteArray, T = ⟨(lineD (⟨4, A1, N1, 0, []⟩ : Deed)).toArray⟩ := ⟨_, rfl⟩
        have hse : ¬ (T = S) := fun h => hL (by rw [hT, HS.out] at h; simpa using h)
        have hse' : (T.toList == S.toList) = false := by
          rw [beq_eq_false_iff_ne, Go.ByteArray.toList_eq, Go.ByteArray.toList_eq]
          exact fun h => hse (ByteArray.ext (Array.ext' h))
        rw [← hT] at hl
        clear HR hL hT
        refine hl.mono ?_
        rintro e w10 ⟨rfl, hk10⟩
        have HK10 := Lib.hid (HK9.out.trans hk10)
        have HH10 := Lib.hid (hk10.heap HH9.out (fun h => h))
        have HG10 := Lib.hid (hk10.heap HG9.out (fun h => h))
        clear hl hk10
        obtain ⟨y0, y1, y2, y3, y4⟩ := blk5 HG10.out
        have yf := fun i => frozenB HG10.out i
        obtain ⟨z0, z1, z2, z3, z4⟩ := blk5 HH10.out
        have zf := fun i => frozenB HH10.out i
        go_wp2_with fail
        refine bodyPost_ret (v := .tuple #[.agg #[.int .i64 0, .int .i64 0, .int .i64 0, .int .u64 0, .slice none 0 0], .int .i64 251]) (results_cell_tmp (q := 3) (ty := 45) (ad := ⟨w.heap.size, 0, none⟩) rfl _ rfl (by go_simp)) rfl (none_end HRR.out ?_)
        refine Kept.own5 ?_ (Nat.le_refl _) _ _ _ _ _
        exact HK10.out
end Go.Proofs.YtdinkdmkbfbjbaaGreatDoor
namespace Go.Proofs.YtdinkdmkbfbjbaaGreatDoor
open Go.RowKit
attribute [local go_sem] fold_part fold_some fold_some' partAt_zero

set_option maxRecDepth 100000 in
set_option maxHeartbeats 3200000 in
theorem rparse5 (s : Bs) (hs : s.length ≤ 9000) (w : World) (hV : Vs w) (hx : (wordsF 4 [] s).getD 0 [] = [99, 117, 116]) :
    Calls Tryz.prog 14 #[.string ⟨s.toArray⟩] w (ParseEnd (parseR s) w) := by
  have c5 : ∀ W, Calls Tryz.prog 11 #[.string ⟨s.toArray⟩, .int .i64 5] W fun e w' => ∃ v, e = .returned v ∧ OwnS w' W.heap.size v (wordsF 4 [] s) ∧ Kept NoBlock W w' := fun W => rwords s (by omega) 5 (by decide) W
  have c3 : ∀ W, Calls Tryz.prog 11 #[.string ⟨s.toArray⟩, .int .i64 3] W fun e w' => ∃ v, e = .returned v ∧ OwnS w' W.heap.size v (wordsF 2 [] s) ∧ Kept NoBlock W w' := fun W => rwords s (by omega) 3 (by decide) W
  have hwl : ∀ i, ((wordsF 4 [] s).getD i []).length ≤ 9000 := fun i => by
    rw [List.getD_eq_getElem?_getD]
    cases h : (wordsF 4 [] s)[i]? with
    | none => simp
    | some x => have := words_len s 4 [] x (List.mem_of_getElem? h); simp only [List.length_nil, Option.getD_some] at this ⊢; omega
  have hw2 : ∀ x, (wordsF 2 [] s)[2]? = some x → x.length ≤ 9000 := fun x hx => by
    have := words_len s 2 [] x (List.mem_of_getElem? hx)
    simp only [List.length_nil] at this
    omega
  have cs1 := fun W => rsigned ((wordsF 4 [] s).getD 1 []) (by have := hwl 1; omega) W
  have cs2 := fun W => rsigned ((wordsF 4 [] s).getD 2 []) (by have := hwl 2; omega) W
  have cb3 := fun W => rbig ((wordsF 4 [] s).getD 3 []) (by have := hwl 3; omega) W
  have cb2 := fun W => rbig ((wordsF 4 [] s).getD 2 []) (by have := hwl 2; omega) W
  have cu := fun x W (hx : (wordsF 2 [] s)[2]? = some x) => runq x (by have := hw2 x hx; omega) W
  have cub := fun x b (hx : (wordsF 2 [] s)[2]? = some x) (hb : unq x = .ok b) => (show b.length ≤ 9000 by have := hw2 x hx; have := unq_blen hb; omega)
  have cl := fun D v W (hf : Deed.Fits D) (hk : Kept NoBlock w W) (h : DeedV W v D) => rline v D W h hf
  have hav := refV_in ((wordsF 4 [] s).getD 1 [])
  have hnv := refV_in ((wordsF 4 [] s).getD 2 [])
  have hb3 := bigV_lt ((wordsF 4 [] s).getD 3 [])
  have hb2 := bigV_lt ((wordsF 4 [] s).getD 2 [])
  have hwn := wordsF_len s 4 []
  have hyl := wordsF_len s 2 []
  generalize hr : parseR s = r
  unfold parseR candR at hr
  generalize wordsF 2 [] s = Y at *
  generalize hW : wordsF 4 [] s = Wd at *
  generalize hx1 : Wd.getD 1 [] = x1 at *
  generalize hx2 : Wd.getD 2 [] = x2 at *
  generalize hx3 : Wd.getD 3 [] = x3 at *
  generalize (refV x1).1 = A1 at *
  generalize (refV x2).1 = N1 at *
  generalize bigV x3 = B3 at *
  generalize bigV x2 = B2 at *
  rw [hx] at hr
  obtain ⟨S, hS⟩ : ∃ S : ByteArray, S = ⟨s.toArray⟩ := ⟨_, rfl⟩
  rw [← hS] at c5 c3 ⊢
  have H5 := Lib.hid c5
  have H3 := Lib.hid c3
  have HS1 := Lib.hid cs1
  have HS2 := Lib.hid cs2
  have HB3 := Lib.hid cb3
  have HB2 := Lib.hid cb2
  have HU := Lib.hid cu
  have HUB := Lib.hid cub
  have HL := Lib.hid cl
  have HAV := Lib.hid hav
  have HNV := Lib.hid hnv
  have HL3 := Lib.hid hb3
  have HL2 := Lib.hid hb2
  have HWN := Lib.hid hwn
  have HYL := Lib.hid hyl
  have HR := Lib.hid hr
  have HS := Lib.hid hS
  have HX := Lib.hid hx
  have HX1 := Lib.hid hx1
  have HX2 := Lib.hid hx2
  have HX3 := Lib.hid hx3
  clear c5 c3 cs1 cs2 cb3 cb2 cu cub cl hav hnv hb3 hb2 hwn hyl hr hS hx hx1 hx2 hx3 hW hwl hw2 hV hs
  have HK1 := Lib.hid (Kept.allocd w (.cells #[.int .i64 0, .int .i64 0, .int .i64 0, .int .u64 0, .slice none 0 0] 45))
  have HH1 := Lib.hid (heap_alloc_new w (.cells #[.int .i64 0, .int .i64 0, .int .i64 0, .int .u64 0, .slice none 0 0] 45))
  go_enter Tryz.func14, Tryz.ntmps14
  go_wp2_with fail
  generalize w.alloc (.cells #[.int .i64 0, .int .i64 0, .int .i64 0, .int .u64 0, .slice none 0 0] 45) = W1 at *
  have hlt1 := lt_of_heap HH1.out
  refine (H5.out _).mono ?_
  rintro e w2 ⟨v, rfl, ho, hk⟩
  have hw12 := hk.size
  have HO2b := Lib.hid ho
  have HK2 := Lib.hid (HK1.out.trans hk)
  have HH2 := Lib.hid (hk.heap HH1.out (fun h => h))
  clear hk ho
  go_wp2_with fail
  go_loopw [4] (fun vo wr => ∃ (L : List Bs), OwnS wr W1.heap.size vo L ∧ L.length ≤ 5 ∧ (∀ i, L.getD i [] = Wd.getD i []) ∧ Kept NoBlock w wr ∧ W1.heap.size ≤ wr.heap.size ∧ wr.heap[w.heap.size]? = some (.cells #[.int .i64 0, .int .i64 0, .int .i64 0, .int .u64 0, .slice none 0 0] 45 (0, 0))) (fun vo _ => 5 - lenOf vo)
  case atStart => exact ⟨Wd, HO2b.out, HWN.out.2, fun _ => rfl, HK2.out, hw12, HH2.out⟩
  case round =>
    obtain ⟨L, ho, h5, hgd, hk, hbase, hh⟩ := hrel
    clear HO2b HK2 HH2
    have HO := Lib.hid ho
    have HGD := Lib.hid hgd
    have HK := Lib.hid hk
    have HH := Lib.hid hh
    have hsz := hk.size
    by_cases hlt : L.length < 5
    · obtain ⟨ap, cap, rfl, _⟩ := OwnM.form ho
      have hlI : (L.length : Int) < 5 := by omega
      clear ho hgd hk hh
      go_wp2_with (at_builtin; refine wpList_appS rfl _ _ (by rfl) W1.heap.size _ L (by rfl) (OwnM.alloc HO.out _) wr.heap.size [] (by rfl) (heap_alloc_new wr _) (by omega) (by simp; omega) ?_; intro v3 w3 hown3 hg3; refine Hid.out ?_)
      have HK3 := Lib.hid (Kept.app (HK.out.trans (Kept.allocd wr _)) (OwnM.alloc HO.out _) (Nat.le_of_lt hlt1) hg3)
      have hsz3 : W1.heap.size ≤ w3.heap.size := by have := hg3.size; simp at this; omega
      have HH3 := Lib.hid (show w3.heap[w.heap.size]? = some (.cells #[.int .i64 0, .int .i64 0, .int .i64 0, .int .u64 0, .slice none 0 0] 45 (0, 0)) from by
        rw [hg3.block w.heap.size (by simp; omega) (fun e => by have := (OwnM.alloc (o := .cells #[.string ⟨#[]⟩] 9) HO.out).lt _ e.symm; omega)]
        exact (Kept.allocd wr _).heap HH.out (fun h => h))
      have HO3 := Lib.hid hown3
      obtain ⟨ap3, cap3, hv3, _⟩ := OwnM.form hown3
      have hgd3 : ∀ i, (L ++ [[]]).getD i [] = Wd.getD i [] := fun i => by
        rw [← HGD.out i, List.getD_eq_getElem?_getD, List.getD_eq_getElem?_getD, List.getElem?_append]
        split
        · rfl
        · rename_i hi
          rw [List.getElem?_eq_none (show L.length ≤ i by omega)]
          cases h : i - L.length <;> simp
      have HGD3 := Lib.hid hgd3
      subst hv3
      clear hown3 hg3 hgd3
      refine Lib.hid ?_
      go_wp2
      go_roundw
      case rel => exact ⟨L ++ [[]], HO3.out, by rw [List.length_append, List.length_singleton]; omega, HGD3.out, HK3.out, hsz3, HH3.out⟩
      case measure => simp [lenOf]; omega
    · obtain h5' : L.length = 5 := by omega
      obtain ⟨g, cap, rfl, hbg, _, hf⟩ := five_of ho h5' hgd
      rw [HX.out, HX1.out, HX2.out, HX3.out] at hf
      have hgl := cell_lt hf.c0
      simp only at hgl
      have hne : ¬ (g = w.heap.size) := by omega
      have HF := Lib.hid hf
      obtain ⟨f0, f1, f2, f3⟩ := hf
      unfold strV at f0 f1 f2 f3
      clear ho hgd hk hh HGD HO
      go_wp2_with fail
      refine (HS1.out _).mono ?_
      rintro e w3 ⟨rfl, rfl⟩
      obtain ⟨z0, z1, z2, z3, z4⟩ := blk5 HH.out
      have zf := fun i => frozenB HH.out i
      have hGH : w.heap.size < wr.heap.size := lt_of_heap HH.out
      have hne1 : ¬ (wr.heap.size = w.heap.size) := by omega
      have hne2 : ¬ (w.heap.size = wr.heap.size) := by omega
      have hne3 : ¬ (g = wr.heap.size) := by omega
      have hne4 : ¬ (wr.heap.size = g) := by omega
      go_wp2_with fail
      clear z0 z1 z2 z3 z4 zf f0 f1 f2 f3
      have hk7 := HK.out.alloc (.cells #[.int .i64 5, .int .i64 A1, .int .i64 0, .int .u64 0, .slice none 0 0] 45)
      have hg7 := heap_alloc_new wr (.cells #[.int .i64 5, .int .i64 A1, .int .i64 0, .int .u64 0, .slice none 0 0] 45)
      have hh7 := (Kept.allocd wr (.cells #[.int .i64 5, .int .i64 A1, .int .i64 0, .int .u64 0, .slice none 0 0] 45)).heap HH.out (fun h => h)
      have hf7 := HF.out.kept (Kept.allocd wr (.cells #[.int .i64 5, .int .i64 A1, .int .i64 0, .int .u64 0, .slice none 0 0] 45))
      generalize wr.heap.size = G at *
      generalize wr.alloc (.cells #[.int .i64 5, .int .i64 A1, .int .i64 0, .int .u64 0, .slice none 0 0] 45) = W7 at *
      have HK7 := Lib.hid hk7
      have HG7 := Lib.hid hg7
      have HH7 := Lib.hid hh7
      have HF7 := Lib.hid hf7
      clear hk7 hg7 hh7 hf7 HK HF HH
      have HNB := Lib.hid (show ∀ k, vblk (.slice none 0 0) = some k → k ≠ w.heap.size from fun k hk => by cases hk)
      have hg9 : W7.heap[G]? = some (.cells #[.int .i64 5, .int .i64 A1, .int .i64 0, .int .u64 0, .slice none 0 0] 45 (0, 0)) := by have := HG7.out; simpa using this
      have hh9 := HH7.out
      have hk9 := HK7.out
      have hdv : DeedV W7 (.agg #[.int .i64 5, .int .i64 A1, .int .i64 0, .int .u64 0, .slice none 0 0]) (⟨5, A1, 0, 0, []⟩ : Deed) := ⟨_, rfl, (BytesV.nil _)⟩
      have htb : TypedB W7 (.slice none 0 0) := (fun k hk => by cases hk)
      generalize W7 = W9 at *
      have HG9 := Lib.hid hg9
      have HH9 := Lib.hid hh9
      have HK9 := Lib.hid hk9
      have hl := HL.out (⟨5, A1, 0, 0, []⟩ : Deed) _ W9 ⟨by simp, HAV.out, by simp, by simp, by simp⟩ hk9 hdv
      have HDV := Lib.hid hdv
      have HTB := Lib.hid htb
      clear hg9 hh9 hk9 hdv htb HL
      by_cases hL : lineD (⟨5, A1, 0, 0, []⟩ : Deed) = s
      · have HRR := Lib.hid (show r = some (⟨5, A1, 0, 0, []⟩ : Deed) by have hr := HR.out; simpa [hL] using hr.symm)
        have hLe : (⟨(lineD (⟨5, A1, 0, 0, []⟩ : Deed)).toArray⟩ : ByteArray) = S := by rw [hL, HS.out]
        rw [hLe] at hl
        clear HR hL hLe
        refine hl.mono ?_
        rintro e w10 ⟨rfl, hk10⟩
        have HK10 := Lib.hid hk10
        have HH10 := Lib.hid (hk10.heap HH9.out (fun h => h))
        have HG10 := Lib.hid (hk10.heap HG9.out (fun h => h))
        clear hl hk10
        obtain ⟨y0, y1, y2, y3, y4⟩ := blk5 HG10.out
        have yf := fun i => frozenB HG10.out i
        obtain ⟨z0, z1, z2, z3, z4⟩ := blk5 HH10.out
        have zf := fun i => frozenB HH10.out i
        go_wp2_with fail
        refine bodyPost_ret (v := .tuple #[.agg #[.int .i64 5, .int .i64 A1, .int .i64 0, .int .u64 0, .slice none 0 0], .int .i64 0]) (results_cell_tmp (q := 3) (ty := 45) (ad := ⟨w.heap.size, 0, none⟩) rfl _ rfl (by go_simp)) rfl (some_end2 (D := (⟨5, A1, 0, 0, []⟩ : Deed)) HRR.out (HDV.out.kept HK10.out) rfl HNB.out (HTB.out.kept HK10.out) (HK9.out.trans HK10.out) _ _ _ _ _)
      · have HRR := Lib.hid (show r = none by have hr := HR.out; simpa [hL] using hr.symm)
        obtain ⟨T, hT⟩ : ∃ T : ByteArray, T = ⟨(lineD (⟨5, A1, 0, 0, []⟩ : Deed)).toArray⟩ := ⟨_, rfl⟩
        have hse : ¬ (T = S) := fun h => hL (by rw [hT, HS.out] at h; simpa using h)
        have hse' : (T.toList == S.toList) = false := by
          rw [beq_eq_false_iff_ne, Go.ByteArray.toList_eq, Go.ByteArray.toList_eq]
          exact fun h => hse (ByteArray.ext (Array.ext' h))
        rw [← hT] at hl
        clear HR hL hT
        refine hl.mono ?_
        rintro e w10 ⟨rfl, hk10⟩
        have HK10 := Lib.hid (HK9.out.trans hk10)
        have HH10 := Lib.hid (hk10.heap HH9.out (fun h => h))
        have HG10 := Lib.hid (hk10.heap HG9.out (fun h => h))
        clear hl hk10
        obtain ⟨y0, y1, y2, y3, y4⟩ := blk5 HG10.out
        have yf := fun i => frozenB HG10.out i
        obtain ⟨z0, z1, z2, z3, z4⟩ := blk5 HH10.out
        have zf := fun i => frozenB HH10.out i
        go_wp2_with fail
        refine bodyPost_ret (v := .tuple #[.agg #[.int .i64 0, .int .i64 0, .int .i64 0, .int .u64 0, .slice none 0 0], .int .i64 251]) (results_cell_tmp (q := 3) (ty := 45) (ad := ⟨w.heap.size, 0, none⟩) rfl _ rfl (by go_simp)) rfl (none_end HRR.out ?_)
        refine Kept.own5 ?_ (Nat.le_refl _) _ _ _ _ _
        exact HK10.out
end Go.Proofs.YtdinkdmkbfbjbaaGreatDoor
namespace Go.Proofs.YtdinkdmkbfbjbaaGreatDoor
open Go.RowKit
attribute [local go_sem] fold_part fold_some fold_some' partAt_zero

set_option maxRecDepth 100000 in
set_option maxHeartbeats 3200000 in
theorem rparse6 (s : Bs) (hs : s.length ≤ 9000) (w : World) (hV : Vs w) (hx : (wordsF 4 [] s).getD 0 [] = [116, 105, 99, 107]) :
    Calls Tryz.prog 14 #[.string ⟨s.toArray⟩] w (ParseEnd (parseR s) w) := by
  have c5 : ∀ W, Calls Tryz.prog 11 #[.string ⟨s.toArray⟩, .int .i64 5] W fun e w' => ∃ v, e = .returned v ∧ OwnS w' W.heap.size v (wordsF 4 [] s) ∧ Kept NoBlock W w' := fun W => rwords s (by omega) 5 (by decide) W
  have c3 : ∀ W, Calls Tryz.prog 11 #[.string ⟨s.toArray⟩, .int .i64 3] W fun e w' => ∃ v, e = .returned v ∧ OwnS w' W.heap.size v (wordsF 2 [] s) ∧ Kept NoBlock W w' := fun W => rwords s (by omega) 3 (by decide) W
  have hwl : ∀ i, ((wordsF 4 [] s).getD i []).length ≤ 9000 := fun i => by
    rw [List.getD_eq_getElem?_getD]
    cases h : (wordsF 4 [] s)[i]? with
    | none => simp
    | some x => have := words_len s 4 [] x (List.mem_of_getElem? h); simp only [List.length_nil, Option.getD_some] at this ⊢; omega
  have hw2 : ∀ x, (wordsF 2 [] s)[2]? = some x → x.length ≤ 9000 := fun x hx => by
    have := words_len s 2 [] x (List.mem_of_getElem? hx)
    simp only [List.length_nil] at this
    omega
  have cs1 := fun W => rsigned ((wordsF 4 [] s).getD 1 []) (by have := hwl 1; omega) W
  have cs2 := fun W => rsigned ((wordsF 4 [] s).getD 2 []) (by have := hwl 2; omega) W
  have cb3 := fun W => rbig ((wordsF 4 [] s).getD 3 []) (by have := hwl 3; omega) W
  have cb2 := fun W => rbig ((wordsF 4 [] s).getD 2 []) (by have := hwl 2; omega) W
  have cu := fun x W (hx : (wordsF 2 [] s)[2]? = some x) => runq x (by have := hw2 x hx; omega) W
  have cub := fun x b (hx : (wordsF 2 [] s)[2]? = some x) (hb : unq x = .ok b) => (show b.length ≤ 9000 by have := hw2 x hx; have := unq_blen hb; omega)
  have cl := fun D v W (hf : Deed.Fits D) (hk : Kept NoBlock w W) (h : DeedV W v D) => rline v D W h hf
  have hav := refV_in ((wordsF 4 [] s).getD 1 [])
  have hnv := refV_in ((wordsF 4 [] s).getD 2 [])
  have hb3 := bigV_lt ((wordsF 4 [] s).getD 3 [])
  have hb2 := bigV_lt ((wordsF 4 [] s).getD 2 [])
  have hwn := wordsF_len s 4 []
  have hyl := wordsF_len s 2 []
  generalize hr : parseR s = r
  unfold parseR candR at hr
  generalize wordsF 2 [] s = Y at *
  generalize hW : wordsF 4 [] s = Wd at *
  generalize hx1 : Wd.getD 1 [] = x1 at *
  generalize hx2 : Wd.getD 2 [] = x2 at *
  generalize hx3 : Wd.getD 3 [] = x3 at *
  generalize (refV x1).1 = A1 at *
  generalize (refV x2).1 = N1 at *
  generalize bigV x3 = B3 at *
  generalize bigV x2 = B2 at *
  rw [hx] at hr
  obtain ⟨S, hS⟩ : ∃ S : ByteArray, S = ⟨s.toArray⟩ := ⟨_, rfl⟩
  rw [← hS] at c5 c3 ⊢
  have H5 := Lib.hid c5
  have H3 := Lib.hid c3
  have HS1 := Lib.hid cs1
  have HS2 := Lib.hid cs2
  have HB3 := Lib.hid cb3
  have HB2 := Lib.hid cb2
  have HU := Lib.hid cu
  have HUB := Lib.hid cub
  have HL := Lib.hid cl
  have HAV := Lib.hid hav
  have HNV := Lib.hid hnv
  have HL3 := Lib.hid hb3
  have HL2 := Lib.hid hb2
  have HWN := Lib.hid hwn
  have HYL := Lib.hid hyl
  have HR := Lib.hid hr
  have HS := Lib.hid hS
  have HX := Lib.hid hx
  have HX1 := Lib.hid hx1
  have HX2 := Lib.hid hx2
  have HX3 := Lib.hid hx3
  clear c5 c3 cs1 cs2 cb3 cb2 cu cub cl hav hnv hb3 hb2 hwn hyl hr hS hx hx1 hx2 hx3 hW hwl hw2 hV hs
  have HK1 := Lib.hid (Kept.allocd w (.cells #[.int .i64 0, .int .i64 0, .int .i64 0, .int .u64 0, .slice none 0 0] 45))
  have HH1 := Lib.hid (heap_alloc_new w (.cells #[.int .i64 0, .int .i64 0, .int .i64 0, .int .u64 0, .slice none 0 0] 45))
  go_enter Tryz.func14, Tryz.ntmps14
  go_wp2_with fail
  generalize w.alloc (.cells #[.int .i64 0, .int .i64 0, .int .i64 0, .int .u64 0, .slice none 0 0] 45) = W1 at *
  have hlt1 := lt_of_heap HH1.out
  refine (H5.out _).mono ?_
  rintro e w2 ⟨v, rfl, ho, hk⟩
  have hw12 := hk.size
  have HO2b := Lib.hid ho
  have HK2 := Lib.hid (HK1.out.trans hk)
  have HH2 := Lib.hid (hk.heap HH1.out (fun h => h))
  clear hk ho
  go_wp2_with fail
  go_loopw [4] (fun vo wr => ∃ (L : List Bs), OwnS wr W1.heap.size vo L ∧ L.length ≤ 5 ∧ (∀ i, L.getD i [] = Wd.getD i []) ∧ Kept NoBlock w wr ∧ W1.heap.size ≤ wr.heap.size ∧ wr.heap[w.heap.size]? = some (.cells #[.int .i64 0, .int .i64 0, .int .i64 0, .int .u64 0, .slice none 0 0] 45 (0, 0))) (fun vo _ => 5 - lenOf vo)
  case atStart => exact ⟨Wd, HO2b.out, HWN.out.2, fun _ => rfl, HK2.out, hw12, HH2.out⟩
  case round =>
    obtain ⟨L, ho, h5, hgd, hk, hbase, hh⟩ := hrel
    clear HO2b HK2 HH2
    have HO := Lib.hid ho
    have HGD := Lib.hid hgd
    have HK := Lib.hid hk
    have HH := Lib.hid hh
    have hsz := hk.size
    by_cases hlt : L.length < 5
    · obtain ⟨ap, cap, rfl, _⟩ := OwnM.form ho
      have hlI : (L.length : Int) < 5 := by omega
      clear ho hgd hk hh
      go_wp2_with (at_builtin; refine wpList_appS rfl _ _ (by rfl) W1.heap.size _ L (by rfl) (OwnM.alloc HO.out _) wr.heap.size [] (by rfl) (heap_alloc_new wr _) (by omega) (by simp; omega) ?_; intro v3 w3 hown3 hg3; refine Hid.out ?_)
      have HK3 := Lib.hid (Kept.app (HK.out.trans (Kept.allocd wr _)) (OwnM.alloc HO.out _) (Nat.le_of_lt hlt1) hg3)
      have hsz3 : W1.heap.size ≤ w3.heap.size := by have := hg3.size; simp at this; omega
      have HH3 := Lib.hid (show w3.heap[w.heap.size]? = some (.cells #[.int .i64 0, .int .i64 0, .int .i64 0, .int .u64 0, .slice none 0 0] 45 (0, 0)) from by
        rw [hg3.block w.heap.size (by simp; omega) (fun e => by have := (OwnM.alloc (o := .cells #[.string ⟨#[]⟩] 9) HO.out).lt _ e.symm; omega)]
        exact (Kept.allocd wr _).heap HH.out (fun h => h))
      have HO3 := Lib.hid hown3
      obtain ⟨ap3, cap3, hv3, _⟩ := OwnM.form hown3
      have hgd3 : ∀ i, (L ++ [[]]).getD i [] = Wd.getD i [] := fun i => by
        rw [← HGD.out i, List.getD_eq_getElem?_getD, List.getD_eq_getElem?_getD, List.getElem?_append]
        split
        · rfl
        · rename_i hi
          rw [List.getElem?_eq_none (show L.length ≤ i by omega)]
          cases h : i - L.length <;> simp
      have HGD3 := Lib.hid hgd3
      subst hv3
      clear hown3 hg3 hgd3
      refine Lib.hid ?_
      go_wp2
      go_roundw
      case rel => exact ⟨L ++ [[]], HO3.out, by rw [List.length_append, List.length_singleton]; omega, HGD3.out, HK3.out, hsz3, HH3.out⟩
      case measure => simp [lenOf]; omega
    · obtain h5' : L.length = 5 := by omega
      obtain ⟨g, cap, rfl, hbg, _, hf⟩ := five_of ho h5' hgd
      rw [HX.out, HX1.out, HX2.out, HX3.out] at hf
      have hgl := cell_lt hf.c0
      simp only at hgl
      have hne : ¬ (g = w.heap.size) := by omega
      have HF := Lib.hid hf
      obtain ⟨f0, f1, f2, f3⟩ := hf
      unfold strV at f0 f1 f2 f3
      clear ho hgd hk hh HGD HO
      go_wp2_with fail
      refine (HS1.out _).mono ?_
      rintro e w3 ⟨rfl, rfl⟩
      obtain ⟨z0, z1, z2, z3, z4⟩ := blk5 HH.out
      have zf := fun i => frozenB HH.out i
      have hGH : w.heap.size < wr.heap.size := lt_of_heap HH.out
      have hne1 : ¬ (wr.heap.size = w.heap.size) := by omega
      have hne2 : ¬ (w.heap.size = wr.heap.size) := by omega
      have hne3 : ¬ (g = wr.heap.size) := by omega
      have hne4 : ¬ (wr.heap.size = g) := by omega
      go_wp2_with fail
      refine (HS2.out _).mono ?_
      rintro e w4 ⟨rfl, rfl⟩
      go_wp2_with fail
      clear z0 z1 z2 z3 z4 zf f0 f1 f2 f3
      have hk7 := HK.out.alloc (.cells #[.int .i64 6, .int .i64 A1, .int .i64 N1, .int .u64 0, .slice none 0 0] 45)
      have hg7 := heap_alloc_new wr (.cells #[.int .i64 6, .int .i64 A1, .int .i64 N1, .int .u64 0, .slice none 0 0] 45)
      have hh7 := (Kept.allocd wr (.cells #[.int .i64 6, .int .i64 A1, .int .i64 N1, .int .u64 0, .slice none 0 0] 45)).heap HH.out (fun h => h)
      have hf7 := HF.out.kept (Kept.allocd wr (.cells #[.int .i64 6, .int .i64 A1, .int .i64 N1, .int .u64 0, .slice none 0 0] 45))
      generalize wr.heap.size = G at *
      generalize wr.alloc (.cells #[.int .i64 6, .int .i64 A1, .int .i64 N1, .int .u64 0, .slice none 0 0] 45) = W7 at *
      have HK7 := Lib.hid hk7
      have HG7 := Lib.hid hg7
      have HH7 := Lib.hid hh7
      have HF7 := Lib.hid hf7
      clear hk7 hg7 hh7 hf7 HK HF HH
      have HNB := Lib.hid (show ∀ k, vblk (.slice none 0 0) = some k → k ≠ w.heap.size from fun k hk => by cases hk)
      have hg9 : W7.heap[G]? = some (.cells #[.int .i64 6, .int .i64 A1, .int .i64 N1, .int .u64 0, .slice none 0 0] 45 (0, 0)) := by have := HG7.out; simpa using this
      have hh9 := HH7.out
      have hk9 := HK7.out
      have hdv : DeedV W7 (.agg #[.int .i64 6, .int .i64 A1, .int .i64 N1, .int .u64 0, .slice none 0 0]) (⟨6, A1, N1, 0, []⟩ : Deed) := ⟨_, rfl, (BytesV.nil _)⟩
      have htb : TypedB W7 (.slice none 0 0) := (fun k hk => by cases hk)
      generalize W7 = W9 at *
      have HG9 := Lib.hid hg9
      have HH9 := Lib.hid hh9
      have HK9 := Lib.hid hk9
      have hl := HL.out (⟨6, A1, N1, 0, []⟩ : Deed) _ W9 ⟨by simp, HAV.out, HNV.out, by simp, by simp⟩ hk9 hdv
      have HDV := Lib.hid hdv
      have HTB := Lib.hid htb
      clear hg9 hh9 hk9 hdv htb HL
      by_cases hL : lineD (⟨6, A1, N1, 0, []⟩ : Deed) = s
      · have HRR := Lib.hid (show r = some (⟨6, A1, N1, 0, []⟩ : Deed) by have hr := HR.out; simpa [hL] using hr.symm)
        have hLe : (⟨(lineD (⟨6, A1, N1, 0, []⟩ : Deed)).toArray⟩ : ByteArray) = S := by rw [hL, HS.out]
        rw [hLe] at hl
        clear HR hL hLe
        refine hl.mono ?_
        rintro e w10 ⟨rfl, hk10⟩
        have HK10 := Lib.hid hk10
        have HH10 := Lib.hid (hk10.heap HH9.out (fun h => h))
        have HG10 := Lib.hid (hk10.heap HG9.out (fun h => h))
        clear hl hk10
        obtain ⟨y0, y1, y2, y3, y4⟩ := blk5 HG10.out
        have yf := fun i => frozenB HG10.out i
        obtain ⟨z0, z1, z2, z3, z4⟩ := blk5 HH10.out
        have zf := fun i => frozenB HH10.out i
        go_wp2_with fail
        refine bodyPost_ret (v := .tuple #[.agg #[.int .i64 6, .int .i64 A1, .int .i64 N1, .int .u64 0, .slice none 0 0], .int .i64 0]) (results_cell_tmp (q := 3) (ty := 45) (ad := ⟨w.heap.size, 0, none⟩) rfl _ rfl (by go_simp)) rfl (some_end2 (D := (⟨6, A1, N1, 0, []⟩ : Deed)) HRR.out (HDV.out.kept HK10.out) rfl HNB.out (HTB.out.kept HK10.out) (HK9.out.trans HK10.out) _ _ _ _ _)
      · have HRR := Lib.hid (show r = none by have hr := HR.out; simpa [hL] using hr.symm)
        obtain ⟨T, hT⟩ : ∃ T : ByteArray, T = ⟨(lineD (⟨6, A1, N1, 0, []⟩ : Deed)).toArray⟩ := ⟨_, rfl⟩
        have hse : ¬ (T = S) := fun h => hL (by rw [hT, HS.out] at h; simpa using h)
        have hse' : (T.toList == S.toList) = false := by
          rw [beq_eq_false_iff_ne, Go.ByteArray.toList_eq, Go.ByteArray.toList_eq]
          exact fun h => hse (ByteArray.ext (Array.ext' h))
        rw [← hT] at hl
        clear HR hL hT
        refine hl.mono ?_
        rintro e w10 ⟨rfl, hk10⟩
        have HK10 := Lib.hid (HK9.out.trans hk10)
        have HH10 := Lib.hid (hk10.heap HH9.out (fun h => h))
        have HG10 := Lib.hid (hk10.heap HG9.out (fun h => h))
        clear hl hk10
        obtain ⟨y0, y1, y2, y3, y4⟩ := blk5 HG10.out
        have yf := fun i => frozenB HG10.out i
        obtain ⟨z0, z1, z2, z3, z4⟩ := blk5 HH10.out
        have zf := fun i => frozenB HH10.out i
        go_wp2_with fail
        refine bodyPost_ret (v := .tuple #[.agg #[.int .i64 0, .int .i64 0, .int .i64 0, .int .u64 0, .slice none 0 0], .int .i64 251]) (results_cell_tmp (q := 3) (ty := 45) (ad := ⟨w.heap.size, 0, none⟩) rfl _ rfl (by go_simp)) rfl (none_end HRR.out ?_)
        refine Kept.own5 ?_ (Nat.le_refl _) _ _ _ _ _
        exact HK10.out
end Go.Proofs.YtdinkdmkbfbjbaaGreatDoor
namespace Go.Proofs.YtdinkdmkbfbjbaaGreatDoor
open Go.RowKit
attribute [local go_sem] fold_part fold_some fold_some' partAt_zero

set_option maxRecDepth 100000 in
set_option maxHeartbeats 3200000 in
theorem rparse7 (s : Bs) (hs : s.length ≤ 9000) (w : World) (hV : Vs w) (hx : (wordsF 4 [] s).getD 0 [] = [114, 101, 115, 116, 97, 114, 116]) :
    Calls Tryz.prog 14 #[.string ⟨s.toArray⟩] w (ParseEnd (parseR s) w) := by
  have c5 : ∀ W, Calls Tryz.prog 11 #[.string ⟨s.toArray⟩, .int .i64 5] W fun e w' => ∃ v, e = .returned v ∧ OwnS w' W.heap.size v (wordsF 4 [] s) ∧ Kept NoBlock W w' := fun W => rwords s (by omega) 5 (by decide) W
  have c3 : ∀ W, Calls Tryz.prog 11 #[.string ⟨s.toArray⟩, .int .i64 3] W fun e w' => ∃ v, e = .returned v ∧ OwnS w' W.heap.size v (wordsF 2 [] s) ∧ Kept NoBlock W w' := fun W => rwords s (by omega) 3 (by decide) W
  have hwl : ∀ i, ((wordsF 4 [] s).getD i []).length ≤ 9000 := fun i => by
    rw [List.getD_eq_getElem?_getD]
    cases h : (wordsF 4 [] s)[i]? with
    | none => simp
    | some x => have := words_len s 4 [] x (List.mem_of_getElem? h); simp only [List.length_nil, Option.getD_some] at this ⊢; omega
  have hw2 : ∀ x, (wordsF 2 [] s)[2]? = some x → x.length ≤ 9000 := fun x hx => by
    have := words_len s 2 [] x (List.mem_of_getElem? hx)
    simp only [List.length_nil] at this
    omega
  have cs1 := fun W => rsigned ((wordsF 4 [] s).getD 1 []) (by have := hwl 1; omega) W
  have cs2 := fun W => rsigned ((wordsF 4 [] s).getD 2 []) (by have := hwl 2; omega) W
  have cb3 := fun W => rbig ((wordsF 4 [] s).getD 3 []) (by have := hwl 3; omega) W
  have cb2 := fun W => rbig ((wordsF 4 [] s).getD 2 []) (by have := hwl 2; omega) W
  have cu := fun x W (hx : (wordsF 2 [] s)[2]? = some x) => runq x (by have := hw2 x hx; omega) W
  have cub := fun x b (hx : (wordsF 2 [] s)[2]? = some x) (hb : unq x = .ok b) => (show b.length ≤ 9000 by have := hw2 x hx; have := unq_blen hb; omega)
  have cl := fun D v W (hf : Deed.Fits D) (hk : Kept NoBlock w W) (h : DeedV W v D) => rline v D W h hf
  have hav := refV_in ((wordsF 4 [] s).getD 1 [])
  have hnv := refV_in ((wordsF 4 [] s).getD 2 [])
  have hb3 := bigV_lt ((wordsF 4 [] s).getD 3 [])
  have hb2 := bigV_lt ((wordsF 4 [] s).getD 2 [])
  have hwn := wordsF_len s 4 []
  have hyl := wordsF_len s 2 []
  generalize hr : parseR s = r
  unfold parseR candR at hr
  generalize wordsF 2 [] s = Y at *
  generalize hW : wordsF 4 [] s = Wd at *
  generalize hx1 : Wd.getD 1 [] = x1 at *
  generalize hx2 : Wd.getD 2 [] = x2 at *
  generalize hx3 : Wd.getD 3 [] = x3 at *
  generalize (refV x1).1 = A1 at *
  generalize (refV x2).1 = N1 at *
  generalize bigV x3 = B3 at *
  generalize bigV x2 = B2 at *
  rw [hx] at hr
  obtain ⟨S, hS⟩ : ∃ S : ByteArray, S = ⟨s.toArray⟩ := ⟨_, rfl⟩
  rw [← hS] at c5 c3 ⊢
  have H5 := Lib.hid c5
  have H3 := Lib.hid c3
  have HS1 := Lib.hid cs1
  have HS2 := Lib.hid cs2
  have HB3 := Lib.hid cb3
  have HB2 := Lib.hid cb2
  have HU := Lib.hid cu
  have HUB := Lib.hid cub
  have HL := Lib.hid cl
  have HAV := Lib.hid hav
  have HNV := Lib.hid hnv
  have HL3 := Lib.hid hb3
  have HL2 := Lib.hid hb2
  have HWN := Lib.hid hwn
  have HYL := Lib.hid hyl
  have HR := Lib.hid hr
  have HS := Lib.hid hS
  have HX := Lib.hid hx
  have HX1 := Lib.hid hx1
  have HX2 := Lib.hid hx2
  have HX3 := Lib.hid hx3
  clear c5 c3 cs1 cs2 cb3 cb2 cu cub cl hav hnv hb3 hb2 hwn hyl hr hS hx hx1 hx2 hx3 hW hwl hw2 hV hs
  have HK1 := Lib.hid (Kept.allocd w (.cells #[.int .i64 0, .int .i64 0, .int .i64 0, .int .u64 0, .slice none 0 0] 45))
  have HH1 := Lib.hid (heap_alloc_new w (.cells #[.int .i64 0, .int .i64 0, .int .i64 0, .int .u64 0, .slice none 0 0] 45))
  go_enter Tryz.func14, Tryz.ntmps14
  go_wp2_with fail
  generalize w.alloc (.cells #[.int .i64 0, .int .i64 0, .int .i64 0, .int .u64 0, .slice none 0 0] 45) = W1 at *
  have hlt1 := lt_of_heap HH1.out
  refine (H5.out _).mono ?_
  rintro e w2 ⟨v, rfl, ho, hk⟩
  have hw12 := hk.size
  have HO2b := Lib.hid ho
  have HK2 := Lib.hid (HK1.out.trans hk)
  have HH2 := Lib.hid (hk.heap HH1.out (fun h => h))
  clear hk ho
  go_wp2_with fail
  go_loopw [4] (fun vo wr => ∃ (L : List Bs), OwnS wr W1.heap.size vo L ∧ L.length ≤ 5 ∧ (∀ i, L.getD i [] = Wd.getD i []) ∧ Kept NoBlock w wr ∧ W1.heap.size ≤ wr.heap.size ∧ wr.heap[w.heap.size]? = some (.cells #[.int .i64 0, .int .i64 0, .int .i64 0, .int .u64 0, .slice none 0 0] 45 (0, 0))) (fun vo _ => 5 - lenOf vo)
  case atStart => exact ⟨Wd, HO2b.out, HWN.out.2, fun _ => rfl, HK2.out, hw12, HH2.out⟩
  case round =>
    obtain ⟨L, ho, h5, hgd, hk, hbase, hh⟩ := hrel
    clear HO2b HK2 HH2
    have HO := Lib.hid ho
    have HGD := Lib.hid hgd
    have HK := Lib.hid hk
    have HH := Lib.hid hh
    have hsz := hk.size
    by_cases hlt : L.length < 5
    · obtain ⟨ap, cap, rfl, _⟩ := OwnM.form ho
      have hlI : (L.length : Int) < 5 := by omega
      clear ho hgd hk hh
      go_wp2_with (at_builtin; refine wpList_appS rfl _ _ (by rfl) W1.heap.size _ L (by rfl) (OwnM.alloc HO.out _) wr.heap.size [] (by rfl) (heap_alloc_new wr _) (by omega) (by simp; omega) ?_; intro v3 w3 hown3 hg3; refine Hid.out ?_)
      have HK3 := Lib.hid (Kept.app (HK.out.trans (Kept.allocd wr _)) (OwnM.alloc HO.out _) (Nat.le_of_lt hlt1) hg3)
      have hsz3 : W1.heap.size ≤ w3.heap.size := by have := hg3.size; simp at this; omega
      have HH3 := Lib.hid (show w3.heap[w.heap.size]? = some (.cells #[.int .i64 0, .int .i64 0, .int .i64 0, .int .u64 0, .slice none 0 0] 45 (0, 0)) from by
        rw [hg3.block w.heap.size (by simp; omega) (fun e => by have := (OwnM.alloc (o := .cells #[.string ⟨#[]⟩] 9) HO.out).lt _ e.symm; omega)]
        exact (Kept.allocd wr _).heap HH.out (fun h => h))
      have HO3 := Lib.hid hown3
      obtain ⟨ap3, cap3, hv3, _⟩ := OwnM.form hown3
      have hgd3 : ∀ i, (L ++ [[]]).getD i [] = Wd.getD i [] := fun i => by
        rw [← HGD.out i, List.getD_eq_getElem?_getD, List.getD_eq_getElem?_getD, List.getElem?_append]
        split
        · rfl
        · rename_i hi
          rw [List.getElem?_eq_none (show L.length ≤ i by omega)]
          cases h : i - L.length <;> simp
      have HGD3 := Lib.hid hgd3
      subst hv3
      clear hown3 hg3 hgd3
      refine Lib.hid ?_
      go_wp2
      go_roundw
      case rel => exact ⟨L ++ [[]], HO3.out, by rw [List.length_append, List.length_singleton]; omega, HGD3.out, HK3.out, hsz3, HH3.out⟩
      case measure => simp [lenOf]; omega
    · obtain h5' : L.length = 5 := by omega
      obtain ⟨g, cap, rfl, hbg, _, hf⟩ := five_of ho h5' hgd
      rw [HX.out, HX1.out, HX2.out, HX3.out] at hf
      have hgl := cell_lt hf.c0
      simp only at hgl
      have hne : ¬ (g = w.heap.size) := by omega
      have HF := Lib.hid hf
      obtain ⟨f0, f1, f2, f3⟩ := hf
      unfold strV at f0 f1 f2 f3
      clear ho hgd hk hh HGD HO
      go_wp2_with fail
      refine (HS1.out _).mono ?_
      rintro e w3 ⟨rfl, rfl⟩
      obtain ⟨z0, z1, z2, z3, z4⟩ := blk5 HH.out
      have zf := fun i => frozenB HH.out i
      have hGH : w.heap.size < wr.heap.size := lt_of_heap HH.out
      have hne1 : ¬ (wr.heap.size = w.heap.size) := by omega
      have hne2 : ¬ (w.heap.size = wr.heap.size) := by omega
      have hne3 : ¬ (g = wr.heap.size) := by omega
      have hne4 : ¬ (wr.heap.size = g) := by omega
      go_wp2_with fail
      refine (HB2.out _).mono ?_
      rintro e w4 ⟨rfl, rfl⟩
      go_wp2_with fail
      clear z0 z1 z2 z3 z4 zf f0 f1 f2 f3
      have hk7 := HK.out.alloc (.cells #[.int .i64 7, .int .i64 A1, .int .i64 0, .int .u64 (B2 : Nat), .slice none 0 0] 45)
      have hg7 := heap_alloc_new wr (.cells #[.int .i64 7, .int .i64 A1, .int .i64 0, .int .u64 (B2 : Nat), .slice none 0 0] 45)
      have hh7 := (Kept.allocd wr (.cells #[.int .i64 7, .int .i64 A1, .int .i64 0, .int .u64 (B2 : Nat), .slice none 0 0] 45)).heap HH.out (fun h => h)
      have hf7 := HF.out.kept (Kept.allocd wr (.cells #[.int .i64 7, .int .i64 A1, .int .i64 0, .int .u64 (B2 : Nat), .slice none 0 0] 45))
      generalize wr.heap.size = G at *
      generalize wr.alloc (.cells #[.int .i64 7, .int .i64 A1, .int .i64 0, .int .u64 (B2 : Nat), .slice none 0 0] 45) = W7 at *
      have HK7 := Lib.hid hk7
      have HG7 := Lib.hid hg7
      have HH7 := Lib.hid hh7
      have HF7 := Lib.hid hf7
      clear hk7 hg7 hh7 hf7 HK HF HH
      have HNB := Lib.hid (show ∀ k, vblk (.slice none 0 0) = some k → k ≠ w.heap.size from fun k hk => by cases hk)
      have hg9 : W7.heap[G]? = some (.cells #[.int .i64 7, .int .i64 A1, .int .i64 0, .int .u64 (B2 : Nat), .slice none 0 0] 45 (0, 0)) := by have := HG7.out; simpa using this
      have hh9 := HH7.out
      have hk9 := HK7.out
      have hdv : DeedV W7 (.agg #[.int .i64 7, .int .i64 A1, .int .i64 0, .int .u64 (B2 : Nat), .slice none 0 0]) (⟨7, A1, 0, B2, []⟩ : Deed) := ⟨_, rfl, (BytesV.nil _)⟩
      have htb : TypedB W7 (.slice none 0 0) := (fun k hk => by cases hk)
      generalize W7 = W9 at *
      have HG9 := Lib.hid hg9
      have HH9 := Lib.hid hh9
      have HK9 := Lib.hid hk9
      have hl := HL.out (⟨7, A1, 0, B2, []⟩ : Deed) _ W9 ⟨by simp, HAV.out, by simp, HL2.out, by simp⟩ hk9 hdv
      have HDV := Lib.hid hdv
      have HTB := Lib.hid htb
      clear hg9 hh9 hk9 hdv htb HL
      by_cases hL : lineD (⟨7, A1, 0, B2, []⟩ : Deed) = s
      · have HRR := Lib.hid (show r = some (⟨7, A1, 0, B2, []⟩ : Deed) by have hr := HR.out; simpa [hL] using hr.symm)
        have hLe : (⟨(lineD (⟨7, A1, 0, B2, []⟩ : Deed)).toArray⟩ : ByteArray) = S := by rw [hL, HS.out]
        rw [hLe] at hl
        clear HR hL hLe
        refine hl.mono ?_
        rintro e w10 ⟨rfl, hk10⟩
        have HK10 := Lib.hid hk10
        have HH10 := Lib.hid (hk10.heap HH9.out (fun h => h))
        have HG10 := Lib.hid (hk10.heap HG9.out (fun h => h))
        clear hl hk10
        obtain ⟨y0, y1, y2, y3, y4⟩ := blk5 HG10.out
        have yf := fun i => frozenB HG10.out i
        obtain ⟨z0, z1, z2, z3, z4⟩ := blk5 HH10.out
        have zf := fun i => frozenB HH10.out i
        go_wp2_with fail
        refine bodyPost_ret (v := .tuple #[.agg #[.int .i64 7, .int .i64 A1, .int .i64 0, .int .u64 (B2 : Nat), .slice none 0 0], .int .i64 0]) (results_cell_tmp (q := 3) (ty := 45) (ad := ⟨w.heap.size, 0, none⟩) rfl _ rfl (by go_simp)) rfl (some_end2 (D := (⟨7, A1, 0, B2, []⟩ : Deed)) HRR.out (HDV.out.kept HK10.out) rfl HNB.out (HTB.out.kept HK10.out) (HK9.out.trans HK10.out) _ _ _ _ _)
      · have HRR := Lib.hid (show r = none by have hr := HR.out; simpa [hL] using hr.symm)
        obtain ⟨T, hT⟩ : ∃ T : ByteArray, T = ⟨(lineD (⟨7, A1, 0, B2, []⟩ : Deed)).toArray⟩ := ⟨_, rfl⟩
        have hse : ¬ (T = S) := fun h => hL (by rw [hT, HS.out] at h; simpa using h)
        have hse' : (T.toList == S.toList) = false := by
          rw [beq_eq_false_iff_ne, Go.ByteArray.toList_eq, Go.ByteArray.toList_eq]
          exact fun h => hse (ByteArray.ext (Array.ext' h))
        rw [← hT] at hl
        clear HR hL hT
        refine hl.mono ?_
        rintro e w10 ⟨rfl, hk10⟩
        have HK10 := Lib.hid (HK9.out.trans hk10)
        have HH10 := Lib.hid (hk10.heap HH9.out (fun h => h))
        have HG10 := Lib.hid (hk10.heap HG9.out (fun h => h))
        clear hl hk10
        obtain ⟨y0, y1, y2, y3, y4⟩ := blk5 HG10.out
        have yf := fun i => frozenB HG10.out i
        obtain ⟨z0, z1, z2, z3, z4⟩ := blk5 HH10.out
        have zf := fun i => frozenB HH10.out i
        go_wp2_with fail
        refine bodyPost_ret (v := .tuple #[.agg #[.int .i64 0, .int .i64 0, .int .i64 0, .int .u64 0, .slice none 0 0], .int .i64 251]) (results_cell_tmp (q := 3) (ty := 45) (ad := ⟨w.heap.size, 0, none⟩) rfl _ rfl (by go_simp)) rfl (none_end HRR.out ?_)
        refine Kept.own5 ?_ (Nat.le_refl _) _ _ _ _ _
        exact HK10.out
end Go.Proofs.YtdinkdmkbfbjbaaGreatDoor
namespace Go.Proofs.YtdinkdmkbfbjbaaGreatDoor
open Go.RowKit
attribute [local go_sem] fold_part fold_some fold_some' partAt_zero

set_option maxRecDepth 100000 in
set_option maxHeartbeats 3200000 in
theorem rparse0 (s : Bs) (hs : s.length ≤ 9000) (w : World) (hV : Vs w) (hx11 : (wordsF 4 [] s).getD 0 [] ≠ [111, 112, 101, 110]) (hx12 : (wordsF 4 [] s).getD 0 [] ≠ [115, 101, 110, 100]) (hx13 : (wordsF 4 [] s).getD 0 [] ≠ [117, 112]) (hx14 : (wordsF 4 [] s).getD 0 [] ≠ [100, 111, 119, 110]) (hx15 : (wordsF 4 [] s).getD 0 [] ≠ [99, 117, 116]) (hx16 : (wordsF 4 [] s).getD 0 [] ≠ [116, 105, 99, 107]) (hx17 : (wordsF 4 [] s).getD 0 [] ≠ [114, 101, 115, 116, 97, 114, 116]) :
    Calls Tryz.prog 14 #[.string ⟨s.toArray⟩] w (ParseEnd (parseR s) w) := by
  have c5 : ∀ W, Calls Tryz.prog 11 #[.string ⟨s.toArray⟩, .int .i64 5] W fun e w' => ∃ v, e = .returned v ∧ OwnS w' W.heap.size v (wordsF 4 [] s) ∧ Kept NoBlock W w' := fun W => rwords s (by omega) 5 (by decide) W
  have c3 : ∀ W, Calls Tryz.prog 11 #[.string ⟨s.toArray⟩, .int .i64 3] W fun e w' => ∃ v, e = .returned v ∧ OwnS w' W.heap.size v (wordsF 2 [] s) ∧ Kept NoBlock W w' := fun W => rwords s (by omega) 3 (by decide) W
  have hwl : ∀ i, ((wordsF 4 [] s).getD i []).length ≤ 9000 := fun i => by
    rw [List.getD_eq_getElem?_getD]
    cases h : (wordsF 4 [] s)[i]? with
    | none => simp
    | some x => have := words_len s 4 [] x (List.mem_of_getElem? h); simp only [List.length_nil, Option.getD_some] at this ⊢; omega
  have hw2 : ∀ x, (wordsF 2 [] s)[2]? = some x → x.length ≤ 9000 := fun x hx => by
    have := words_len s 2 [] x (List.mem_of_getElem? hx)
    simp only [List.length_nil] at this
    omega
  have cs1 := fun W => rsigned ((wordsF 4 [] s).getD 1 []) (by have := hwl 1; omega) W
  have cs2 := fun W => rsigned ((wordsF 4 [] s).getD 2 []) (by have := hwl 2; omega) W
  have cb3 := fun W => rbig ((wordsF 4 [] s).getD 3 []) (by have := hwl 3; omega) W
  have cb2 := fun W => rbig ((wordsF 4 [] s).getD 2 []) (by have := hwl 2; omega) W
  have cu := fun x W (hx : (wordsF 2 [] s)[2]? = some x) => runq x (by have := hw2 x hx; omega) W
  have cub := fun x b (hx : (wordsF 2 [] s)[2]? = some x) (hb : unq x = .ok b) => (show b.length ≤ 9000 by have := hw2 x hx; have := unq_blen hb; omega)
  have cl := fun D v W (hf : Deed.Fits D) (hk : Kept NoBlock w W) (h : DeedV W v D) => rline v D W h hf
  have hav := refV_in ((wordsF 4 [] s).getD 1 [])
  have hnv := refV_in ((wordsF 4 [] s).getD 2 [])
  have hb3 := bigV_lt ((wordsF 4 [] s).getD 3 [])
  have hb2 := bigV_lt ((wordsF 4 [] s).getD 2 [])
  have hwn := wordsF_len s 4 []
  have hyl := wordsF_len s 2 []
  generalize hr : parseR s = r
  unfold parseR candR at hr
  generalize wordsF 2 [] s = Y at *
  generalize hW : wordsF 4 [] s = Wd at *
  generalize hx1 : Wd.getD 1 [] = x1 at *
  generalize hx2 : Wd.getD 2 [] = x2 at *
  generalize hx3 : Wd.getD 3 [] = x3 at *
  generalize (refV x1).1 = A1 at *
  generalize (refV x2).1 = N1 at *
  generalize bigV x3 = B3 at *
  generalize bigV x2 = B2 at *
  generalize hx : Wd.getD 0 [] = x0 at *
  obtain ⟨S, hS⟩ : ∃ S : ByteArray, S = ⟨s.toArray⟩ := ⟨_, rfl⟩
  rw [← hS] at c5 c3 ⊢
  have H5 := Lib.hid c5
  have H3 := Lib.hid c3
  have HS1 := Lib.hid cs1
  have HS2 := Lib.hid cs2
  have HB3 := Lib.hid cb3
  have HB2 := Lib.hid cb2
  have HU := Lib.hid cu
  have HUB := Lib.hid cub
  have HL := Lib.hid cl
  have HAV := Lib.hid hav
  have HNV := Lib.hid hnv
  have HL3 := Lib.hid hb3
  have HL2 := Lib.hid hb2
  have HWN := Lib.hid hwn
  have HYL := Lib.hid hyl
  have HR := Lib.hid hr
  have HS := Lib.hid hS
  have HX := Lib.hid hx
  have HX1 := Lib.hid hx1
  have HX2 := Lib.hid hx2
  have HX3 := Lib.hid hx3
  clear c5 c3 cs1 cs2 cb3 cb2 cu cub cl hav hnv hb3 hb2 hwn hyl hr hS hx hx1 hx2 hx3 hW hwl hw2 hV hs
  have HK1 := Lib.hid (Kept.allocd w (.cells #[.int .i64 0, .int .i64 0, .int .i64 0, .int .u64 0, .slice none 0 0] 45))
  have HH1 := Lib.hid (heap_alloc_new w (.cells #[.int .i64 0, .int .i64 0, .int .i64 0, .int .u64 0, .slice none 0 0] 45))
  go_enter Tryz.func14, Tryz.ntmps14
  go_wp2_with fail
  generalize w.alloc (.cells #[.int .i64 0, .int .i64 0, .int .i64 0, .int .u64 0, .slice none 0 0] 45) = W1 at *
  have hlt1 := lt_of_heap HH1.out
  refine (H5.out _).mono ?_
  rintro e w2 ⟨v, rfl, ho, hk⟩
  have hw12 := hk.size
  have HO2b := Lib.hid ho
  have HK2 := Lib.hid (HK1.out.trans hk)
  have HH2 := Lib.hid (hk.heap HH1.out (fun h => h))
  clear hk ho
  go_wp2_with fail
  go_loopw [4] (fun vo wr => ∃ (L : List Bs), OwnS wr W1.heap.size vo L ∧ L.length ≤ 5 ∧ (∀ i, L.getD i [] = Wd.getD i []) ∧ Kept NoBlock w wr ∧ W1.heap.size ≤ wr.heap.size ∧ wr.heap[w.heap.size]? = some (.cells #[.int .i64 0, .int .i64 0, .int .i64 0, .int .u64 0, .slice none 0 0] 45 (0, 0))) (fun vo _ => 5 - lenOf vo)
  case atStart => exact ⟨Wd, HO2b.out, HWN.out.2, fun _ => rfl, HK2.out, hw12, HH2.out⟩
  case round =>
    obtain ⟨L, ho, h5, hgd, hk, hbase, hh⟩ := hrel
    clear HO2b HK2 HH2
    have HO := Lib.hid ho
    have HGD := Lib.hid hgd
    have HK := Lib.hid hk
    have HH := Lib.hid hh
    have hsz := hk.size
    by_cases hlt : L.length < 5
    · obtain ⟨ap, cap, rfl, _⟩ := OwnM.form ho
      have hlI : (L.length : Int) < 5 := by omega
      clear ho hgd hk hh
      go_wp2_with (at_builtin; refine wpList_appS rfl _ _ (by rfl) W1.heap.size _ L (by rfl) (OwnM.alloc HO.out _) wr.heap.size [] (by rfl) (heap_alloc_new wr _) (by omega) (by simp; omega) ?_; intro v3 w3 hown3 hg3; refine Hid.out ?_)
      have HK3 := Lib.hid (Kept.app (HK.out.trans (Kept.allocd wr _)) (OwnM.alloc HO.out _) (Nat.le_of_lt hlt1) hg3)
      have hsz3 : W1.heap.size ≤ w3.heap.size := by have := hg3.size; simp at this; omega
      have HH3 := Lib.hid (show w3.heap[w.heap.size]? = some (.cells #[.int .i64 0, .int .i64 0, .int .i64 0, .int .u64 0, .slice none 0 0] 45 (0, 0)) from by
        rw [hg3.block w.heap.size (by simp; omega) (fun e => by have := (OwnM.alloc (o := .cells #[.string ⟨#[]⟩] 9) HO.out).lt _ e.symm; omega)]
        exact (Kept.allocd wr _).heap HH.out (fun h => h))
      have HO3 := Lib.hid hown3
      obtain ⟨ap3, cap3, hv3, _⟩ := OwnM.form hown3
      have hgd3 : ∀ i, (L ++ [[]]).getD i [] = Wd.getD i [] := fun i => by
        rw [← HGD.out i, List.getD_eq_getElem?_getD, List.getD_eq_getElem?_getD, List.getElem?_append]
        split
        · rfl
        · rename_i hi
          rw [List.getElem?_eq_none (show L.length ≤ i by omega)]
          cases h : i - L.length <;> simp
      have HGD3 := Lib.hid hgd3
      subst hv3
      clear hown3 hg3 hgd3
      refine Lib.hid ?_
      go_wp2
      go_roundw
      case rel => exact ⟨L ++ [[]], HO3.out, by rw [List.length_append, List.length_singleton]; omega, HGD3.out, HK3.out, hsz3, HH3.out⟩
      case measure => simp [lenOf]; omega
    · obtain h5' : L.length = 5 := by omega
      obtain ⟨g, cap, rfl, hbg, _, hf⟩ := five_of ho h5' hgd
      rw [HX.out, HX1.out, HX2.out, HX3.out] at hf
      have hgl := cell_lt hf.c0
      simp only at hgl
      have hne : ¬ (g = w.heap.size) := by omega
      have HF := Lib.hid hf
      obtain ⟨f0, f1, f2, f3⟩ := hf
      unfold strV at f0 f1 f2 f3
      clear ho hgd hk hh HGD HO
      go_wp2_with fail
      refine (HS1.out _).mono ?_
      rintro e w3 ⟨rfl, rfl⟩
      obtain ⟨z0, z1, z2, z3, z4⟩ := blk5 HH.out
      have zf := fun i => frozenB HH.out i
      have hGH : w.heap.size < wr.heap.size := lt_of_heap HH.out
      have hne1 : ¬ (wr.heap.size = w.heap.size) := by omega
      have hne2 : ¬ (w.heap.size = wr.heap.size) := by omega
      have hne3 : ¬ (g = wr.heap.size) := by omega
      have hne4 : ¬ (wr.heap.size = g) := by omega
      obtain ⟨X0, hX0⟩ : ∃ X : ByteArray, X = ⟨x0.toArray⟩ := ⟨_, rfl⟩
      rw [← hX0] at f0
      have p1 : (X0.toList == [111, 112, 101, 110]) = false := by rw [beq_eq_false_iff_ne, Go.ByteArray.toList_eq, hX0]; exact hx11
      have p2 : (X0.toList == [115, 101, 110, 100]) = false := by rw [beq_eq_false_iff_ne, Go.ByteArray.toList_eq, hX0]; exact hx12
      have p3 : (X0.toList == [117, 112]) = false := by rw [beq_eq_false_iff_ne, Go.ByteArray.toList_eq, hX0]; exact hx13
      have p4 : (X0.toList == [100, 111, 119, 110]) = false := by rw [beq_eq_false_iff_ne, Go.ByteArray.toList_eq, hX0]; exact hx14
      have p5 : (X0.toList == [99, 117, 116]) = false := by rw [beq_eq_false_iff_ne, Go.ByteArray.toList_eq, hX0]; exact hx15
      have p6 : (X0.toList == [116, 105, 99, 107]) = false := by rw [beq_eq_false_iff_ne, Go.ByteArray.toList_eq, hX0]; exact hx16
      have p7 : (X0.toList == [114, 101, 115, 116, 97, 114, 116]) = false := by rw [beq_eq_false_iff_ne, Go.ByteArray.toList_eq, hX0]; exact hx17
      have HRR := Lib.hid (show r = none by have hr := HR.out; simpa [hx11, hx12, hx13, hx14, hx15, hx16, hx17] using hr.symm)
      clear HR hX0 hx11 hx12 hx13 hx14 hx15 hx16 hx17
      go_wp2_with fail
      refine bodyPost_ret (v := .tuple #[.agg #[.int .i64 0, .int .i64 0, .int .i64 0, .int .u64 0, .slice none 0 0], .int .i64 251]) (results_cell_tmp (q := 3) (ty := 45) (ad := ⟨w.heap.size, 0, none⟩) rfl _ rfl (by go_simp)) rfl (none_end HRR.out ?_)
      exact (HK.out.own5 (Nat.le_refl _) _ _ _ _ _).alloc _
end Go.Proofs.YtdinkdmkbfbjbaaGreatDoor
namespace Go.Proofs.YtdinkdmkbfbjbaaGreatDoor
open Go.RowKit

theorem rparse (s : Bs) (hs : s.length ≤ 9000) (w : World) (hV : Vs w) :
    Calls Tryz.prog 14 #[.string ⟨s.toArray⟩] w (ParseEnd (parseP s) w) := by
  rw [← parseR_P hs]
  by_cases h1 : (wordsF 4 [] s).getD 0 [] = [111, 112, 101, 110]
  · exact rparse1 s hs w hV h1
  by_cases h2 : (wordsF 4 [] s).getD 0 [] = [115, 101, 110, 100]
  · exact rparse2 s hs w hV h2
  by_cases h3 : (wordsF 4 [] s).getD 0 [] = [117, 112]
  · exact rparse3 s hs w hV h3
  by_cases h4 : (wordsF 4 [] s).getD 0 [] = [100, 111, 119, 110]
  · exact rparse4 s hs w hV h4
  by_cases h5 : (wordsF 4 [] s).getD 0 [] = [99, 117, 116]
  · exact rparse5 s hs w hV h5
  by_cases h6 : (wordsF 4 [] s).getD 0 [] = [116, 105, 99, 107]
  · exact rparse6 s hs w hV h6
  by_cases h7 : (wordsF 4 [] s).getD 0 [] = [114, 101, 115, 116, 97, 114, 116]
  · exact rparse7 s hs w hV h7
  exact rparse0 s hs w hV h1 h2 h3 h4 h5 h6 h7
end Go.Proofs.YtdinkdmkbfbjbaaGreatDoor
namespace Go.Proofs.YtdinkdmkbfbjbaaGreatDoor
open Go.RowKit
attribute [local go_sem] fold_part fold_some fold_some' partAt_zero

theorem alive_text : textD ⟨2, 0, 0, 0, [83, 69, 84, 32, 107, 32, 0, 13, 10]⟩ = ([115, 101, 110, 100, 32, 48, 32, 34, 83, 69, 84, 32, 107, 32, 92, 120, 48, 48, 92, 114, 92, 110, 34], 0) := by kernel_rfl
theorem alive_line : lineD ⟨3, 3, 14, 18446744073709551615, []⟩ = [117, 112, 32, 51, 32, 49, 52, 32, 49, 56, 52, 52, 54, 55, 52, 52, 48, 55, 51, 55, 48, 57, 53, 53, 49, 54, 49, 53] := by kernel_rfl
theorem alive_parse : parseP [117, 112, 32, 51, 32, 49, 52, 32, 49, 56, 52, 52, 54, 55, 52, 52, 48, 55, 51, 55, 48, 57, 53, 53, 49, 54, 49, 53] = some ⟨3, 3, 14, 18446744073709551615, []⟩ := by
  rw [parseP_is (by decide)]
  exact ⟨rfl, ⟨by simp, by simp, by simp, by simp, by simp⟩, by simp, by simp, alive_line⟩

set_option maxRecDepth 100000 in
set_option maxHeartbeats 1600000 in
theorem lalive (w : World) (hV : Vs w) (hM : Mx w) :
    Calls Tryz.prog 7 #[] w fun e w' => e = .returned (.bool true) ∧ Kept NoBlock w w' := by
  have ht := fun v W (hk : Kept NoBlock w W) (h : DeedV W v ⟨2, 0, 0, 0, [83, 69, 84, 32, 107, 32, 0, 13, 10]⟩) => ptext v _ W (hV.below hk.toB) h ⟨by simp, by simp, by simp, by simp, by simp⟩
  have hp := fun W (hk : Kept NoBlock w W) => pparse [117, 112, 32, 51, 32, 49, 52, 32, 49, 56, 52, 52, 54, 55, 52, 52, 48, 55, 51, 55, 48, 57, 53, 53, 49, 54, 49, 53] (by decide) W (hV.below hk.toB) (hM.kept hk)
  rw [alive_parse] at hp
  rw [alive_text] at ht
  simp only at ht
  have HT := Lib.hid ht
  have HP := Lib.hid hp
  clear ht hp hV hM
  have kc := fun (w : World) (C : Array Value) (n c : Nat) => Lib.run_convert_bytes_const (P := Tryz.prog) w 43 5 C n c Tryz.underlying43 Tryz.underlying5
  have hown : OwnT (w.alloc (.cells #[.int .u8 83, .int .u8 69, .int .u8 84, .int .u8 32, .int .u8 107, .int .u8 32, .int .u8 0, .int .u8 13, .int .u8 10] 5 (9, 10))) w.heap.size (.slice (some ⟨w.heap.size, 0, none⟩) 9 9) [83, 69, 84, 32, 107, 32, 0, 13, 10] :=
    const_own w 5 [.int .u8 83, .int .u8 69, .int .u8 84, .int .u8 32, .int .u8 107, .int .u8 32, .int .u8 0, .int .u8 13, .int .u8 10] (by decide)
  have hbv := hown.bytes
  have hk1 := Kept.allocd w (.cells #[.int .u8 83, .int .u8 69, .int .u8 84, .int .u8 32, .int .u8 107, .int .u8 32, .int .u8 0, .int .u8 13, .int .u8 10] 5 (9, 10))
  have HB := Lib.hid hbv
  have HK1 := Lib.hid hk1
  clear hown hbv hk1
  go_enter Tryz.func7, Tryz.ntmps7
  go_wp2_with fail
  refine (HT.out _ _ HK1.out ⟨_, rfl, HB.out⟩).mono ?_
  rintro e w2 ⟨rfl, hk⟩
  have HK2 := Lib.hid (HK1.out.trans hk)
  clear hk
  go_wp2_with fail
  refine (HP.out _ HK2.out).mono ?_
  rintro e w3 ⟨hk, bv, rfl, hb, _⟩
  obtain ⟨ap, cap, rfl, _⟩ := hb.parts
  have HK3 := Lib.hid (HK2.out.trans hk)
  clear hk hb
  go_wp2_with fail
  go_ret
  exact ⟨rfl, HK3.out.alloc _⟩
end Go.Proofs.YtdinkdmkbfbjbaaGreatDoor
