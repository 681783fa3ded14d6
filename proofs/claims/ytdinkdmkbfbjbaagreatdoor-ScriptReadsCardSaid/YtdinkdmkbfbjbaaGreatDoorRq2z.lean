/- Merged: The script of a text, by the document. -/
import Derived.Test.YtdinkdmkbfbjbaaGreatDoorZSa
import Derived.Test.YtdinkdmkbfbjbaaGreatDoorRq1z
set_option linter.all false
namespace Go.Proofs.YtdinkdmkbfbjbaaGreatDoor
open Go.RowKit
attribute [local go_sem] fold_part fold_some fold_some' partAt_zero stillV_enter

/-- The cells of a row of texts. -/
theorem OwnS.at {w : World} {base : Nat} {ap : Option Addr} {n cap : Nat} {L : List Bs} (h : OwnS w base (.slice ap n cap) L) {i : Nat} {x : Bs} (hi : L[i]? = some x) : ∃ g, ap = some ⟨g, 0, none⟩ ∧ w.cell? ⟨g, i, none⟩ = some (strV x) := by
  obtain ⟨g, hg⟩ : ∃ g, ap = some ⟨g, 0, none⟩ := by
    rcases h.2 with ⟨h1, h2⟩ | ⟨g, cap', cur, fz, h1, _⟩
    · have := (List.getElem?_eq_some_iff.1 hi).1
      omega
    · cases h1; exact ⟨g, rfl⟩
  subst hg
  refine ⟨g, rfl, ?_⟩
  obtain ⟨ad, e, hc⟩ := RowV.cell (OwnM.row h) (i := i) (v := strV x) (by rw [List.getElem?_map, hi]; rfl)
  cases e
  rw [addr_add, Nat.zero_add] at hc
  exact hc

noncomputable def readW (whole : Bool) (l : Bs) (ls : List Bs) : Except Nat (Conf × List Deed) :=
  match settingsR l with
  | none => .error 0
  | some c => match goOver 1 ls [] with
    | .error k => .error k
    | .ok ds => if whole then .ok (c, ds) else .error ls.length

theorem OwnM.keptB {S : Nat → Prop} {w w' : World} {base g n cap m : Nat} {e : TypeId} {xs : List Value} (h : OwnM w base e (.slice (some ⟨g, 0, none⟩) m cap) n xs) (hk : Kept S w w') (hS : ¬ S g) : OwnM w' base e (.slice (some ⟨g, 0, none⟩) m cap) n xs := by
  refine ⟨h.1, ?_⟩
  rcases h.2 with hn | ⟨g', cap', cur, fz, h1, h2, h3, rest⟩
  · exact .inl hn
  · cases h1
    exact .inr ⟨_, _, cur, fz, rfl, h2, hk.heap h3 hS, rest⟩

theorem wpList_appSL {w : World} {ops : Array Oper} {rest : List Oper} {o : Oper} {a : Act} {Q : Exit → Act → World → Prop} (hgd : o.guard = none) (s x : Operand)
    (ho : o.op = .call { callee := .builtin .append, args := #[s, x], argTypes := #[48, 48] })
    (base : Nat) (v : Value) (L : List Bs) (hs : a.eval s = v) (hown : OwnS w base v L) (b m : Nat) (ps : List Bs) (hm : m = ps.length) (hx : a.eval x = .slice (some ⟨b, 0, none⟩) m m) (hu : w.heap[b]? = some (.cells (ps.map strV).toArray 9 (0, 0))) (hlen : L.length + ps.length ≤ 1000000) (hbase : base ≤ w.heap.size)
    (h : ∀ v' w', OwnS w' base v' (L ++ ps) → w.grownBy w' v.ownBlock → wpList Tryz.prog ops Q rest (a.put o.dst v') w') : wpList Tryz.prog ops Q (o :: rest) a w := by
  subst hm
  obtain ⟨i0, hi, hz0, hz1, hz2⟩ := info_parts strInfo
  have hH : Holds w (some ⟨b, 0, none⟩) ps.length (ps.map strV) := ⟨by simp, fun _ => ⟨_, rfl, fun j v hj => by rw [addr_add, Nat.zero_add]; exact cellB hu (by simpa using hj)⟩⟩
  refine wpList_append_M (P := Tryz.prog) w hgd s x 48 ho base 9 i0 _ 16 Tryz.underlying48 hi hz0 hz1 hz2 rfl v L.length (L.map strV) hs hown (some ⟨b, 0, none⟩) ps.length ps.length (ps.map strV) hx hH (fun h => by cases h) (fun u hu => by obtain ⟨p, _, rfl⟩ := List.mem_map.1 hu; rfl) (by unfold maxLen; omega) (by omega) hbase ?_
  intro v' w' hr hg
  refine h v' w' ?_ hg
  unfold OwnS
  rw [List.length_append, List.map_append]
  exact hr

set_option maxRecDepth 100000 in
set_option maxHeartbeats 6400000 in
theorem rread (s : Bs) (hs : s.length ≤ 8000) (w : World) (hV : Vs w) :
    Calls Tryz.prog 5 #[.string ⟨s.toArray⟩] w (ReadEnd (readD s) w) := by
  have hpa := fun l (hl : l.length ≤ 9000) W (hk : Kept NoBlock w W) => rparse l hl W (hV.below hk.toB)
  have hwo := fun l (hl : l.length ≤ 9000) W => rwords l (by omega) 6 (by decide) W
  have hsg := fun l (hl : l.length ≤ 9000) W => rsigned l (by omega) W
  have hhd := fun c (hc : Conf.Fits c) W => rhead c hc W
  have hal := allL_len (s := s)
  have hash := allL_short (s := s)
  rw [← readR_D]
  generalize hRR : readR s = RR
  unfold readR at hRR
  generalize hMM : linesS s = MM at *
  have hM0 : linesF [] s = MM := hMM
  have haL : allL s = MM.1 ++ (if MM.2 = [] then [] else [MM.2]) := by unfold allL; rw [hMM]
  rw [haL] at hRR hal hash
  obtain ⟨S, hS⟩ : ∃ S : ByteArray, S = ⟨s.toArray⟩ := ⟨_, rfl⟩
  have hSz := str_size hS
  have hS8 : S.size ≤ 8000 := by omega
  have hSI : ¬ ((67108864 : Int) < (S.size : Int)) := by omega
  rw [← hS]
  have HPA := Lib.hid hpa
  have HWO := Lib.hid hwo
  have HSG := Lib.hid hsg
  have HHD := Lib.hid hhd
  have HAL := Lib.hid hal
  have HASH := Lib.hid hash
  have HRR := Lib.hid hRR
  have HM0 := Lib.hid hM0
  have HS := Lib.hid hS
  have HSZ := Lib.hid hSz
  clear hpa hwo hsg hhd hal hash hRR hMM hM0 haL hS hSz hs hV
  have HK1 := Lib.hid (Kept.allocd w (.cells #[.int .i64 0, .int .i64 0, .int .i64 0, .int .i64 0, .int .i64 0] 27))
  have HG1 := Lib.hid (heap_alloc_new w (.cells #[.int .i64 0, .int .i64 0, .int .i64 0, .int .i64 0, .int .i64 0] 27))
  go_enter Tryz.func5, Tryz.ntmps5
  go_wp2_with fail
  generalize w.alloc (.cells #[.int .i64 0, .int .i64 0, .int .i64 0, .int .i64 0, .int .i64 0] 27) = W1 at *
  obtain ⟨B, hB⟩ : ∃ B, B = W1.heap.size := ⟨_, rfl⟩
  have hBw : w.heap.size < B := by rw [hB]; exact lt_of_heap HG1.out
  have hB1 : B ≤ W1.heap.size := by omega
  clear hB
  go_loopw [6, 7, 8] (fun vl vf vi wr => ∃ (i f : Nat) (L : List Bs), vi = .int .i64 i ∧ vf = .int .i64 f ∧ i ≤ S.size ∧ f ≤ i ∧ OwnS wr B vl L ∧ L.length ≤ i ∧
      (L ++ (linesF ((s.take i).drop f) (s.drop i)).1 = MM.1 ∧ (linesF ((s.take i).drop f) (s.drop i)).2 = MM.2) ∧ Kept NoBlock w wr ∧ B ≤ wr.heap.size ∧
      wr.heap[w.heap.size]? = some (.cells #[.int .i64 0, .int .i64 0, .int .i64 0, .int .i64 0, .int .i64 0] 27 (0, 0))) (fun _ _ vi _ => S.size - (intOf vi).toNat)
  case atStart => exact ⟨0, 0, [], rfl, rfl, Nat.zero_le _, Nat.le_refl _, OwnM.nil _ _ _, Nat.zero_le _, by have := HM0.out; simp only [List.take_zero, List.drop_zero, List.drop_nil, List.nil_append]; rw [this]; exact ⟨rfl, rfl⟩, HK1.out, hB1, HG1.out⟩
  case round =>
    obtain ⟨i, f, L, rfl, rfl, hi, hf, hown, hLi, ⟨hM1, hM2⟩, hK, hbs, hz⟩ := hrel
    obtain ⟨ap, cap, rfl, _⟩ := OwnM.form hown
    have HO := Lib.hid hown
    have HK := Lib.hid hK
    have HZ := Lib.hid hz
    have hsz := hK.size
    clear hown hK hz HK1 HG1 HM0
    by_cases hlt : i < S.size
    · have hil : i < s.length := by rw [← HSZ.out]; exact hlt
      obtain ⟨c, hc⟩ : ∃ c, c = s[i] := ⟨_, rfl⟩
      have hci : s[i]? = some c := by rw [List.getElem?_eq_getElem hil, hc]
      obtain ⟨hii, ei⟩ := str_at HS.out hci
      rw [drop_cons hil, ← hc, linesF] at hM1 hM2
      have htk : (s.take (i + 1)).drop f = (s.take i).drop f ++ [c] := by
        rw [take_snoc' s i hil, ← hc, List.drop_append_of_le_length (by rw [List.length_take]; omega)]
      by_cases h10 : c = 10
      · subst h10
        rw [if_pos rfl] at hM1 hM2
        have hz0 : (s.take (i + 1)).drop (i + 1) = [] := List.drop_of_length_le (by rw [List.length_take]; omega)
        have hN : (L ++ [(s.take i).drop f]) ++ (linesF ((s.take (i + 1)).drop (i + 1)) (s.drop (i + 1))).1 = MM.1 ∧ (linesF ((s.take (i + 1)).drop (i + 1)) (s.drop (i + 1))).2 = MM.2 := by
          rw [hz0]; exact ⟨by rw [← hM1, List.append_assoc]; rfl, hM2⟩
        have hext : Value.string (S.extract f i) = strV ((s.take i).drop f) := by unfold strV; rw [HS.out, str_part]
        have HU := Lib.hid hext
        have HN := Lib.hid hN
        clear hext hN hM1 hM2 hz0 htk hci hc hil
        go_wp2_with (at_builtin; refine wpList_appS rfl _ _ (by rfl) B _ L (by rfl) (OwnM.alloc HO.out _) wr.heap.size ((s.take i).drop f) (by rfl) (by rw [HU.out]; exact heap_alloc_new wr _) (by omega) (by simp; omega) ?_; intro v3 w3 hown3 hg3; refine Hid.out ?_)
        have HK3 := Lib.hid (Kept.app (HK.out.trans (Kept.allocd wr _)) (OwnM.alloc HO.out _) (Nat.le_of_lt hBw) hg3)
        have HO3 := Lib.hid hown3
        have hbs3 : B ≤ w3.heap.size := by have := hg3.size; simp at this; omega
        have HZ3 := Lib.hid (show w3.heap[w.heap.size]? = some (.cells #[.int .i64 0, .int .i64 0, .int .i64 0, .int .i64 0, .int .i64 0] 27 (0, 0)) from by
          rw [hg3.block w.heap.size (by simp; omega) (fun e => by have := OwnM.lt HO.out _ e.symm; omega)]
          exact (Kept.allocd wr _).heap HZ.out (fun h => h))
        clear hown3 hg3
        refine Lib.hid ?_
        go_wp2
        go_roundw
        case rel => exact ⟨i + 1, i + 1, L ++ [(s.take i).drop f], by go_num, by go_num, by omega, Nat.le_refl _, HO3.out, by rw [List.length_append, List.length_singleton]; omega, HN.out, HK3.out, hbs3, HZ3.out⟩
        case measure => simp [intOf]; omega
      · rw [if_neg h10, ← htk] at hM1 hM2
        have hN := And.intro hM1 hM2
        have HN := Lib.hid hN
        have hcI : ¬ ((c.toNat : Int) = 10) := u8_neI h10
        clear hN hM1 hM2 htk hci hc hil h10
        go_wp2
        go_roundw
        case rel => exact ⟨i + 1, f, L, by go_num, rfl, by omega, by omega, HO.out, by omega, HN.out, HK.out, hbs, HZ.out⟩
        case measure => simp [intOf]; omega
    · obtain rfl : i = S.size := by omega
      rw [show s.drop S.size = [] from List.drop_of_length_le (by rw [← HSZ.out]; omega), linesF, List.take_of_length_le (by rw [← HSZ.out]; omega)] at hM1 hM2
      simp only [List.append_nil] at hM1 hM2
      subst hM1
      have hlw := str_size HS.out
      by_cases hend : f = S.size
      · subst hend
        have hwh : MM.2 = [] := by rw [← hM2]; exact List.drop_of_length_le (by omega)
        have hRR := HRR.out
        have hash := HASH.out
        rw [hwh, if_pos rfl, List.append_nil] at hRR hash
        simp only [eq_self, if_true] at hRR
        have HWH := Lib.hid hwh
        clear hM2 HRR HASH HAL hwh hlw
        cases hLL : MM.1 with
        | nil =>
          have hbad : RR = .error 0 := by rw [hLL] at hRR; exact hRR.symm
          have HBAD := Lib.hid hbad
          clear hbad hRR hash hLL hLi
          obtain ⟨z0, z1, z2, z3, z4⟩ := blk5 HZ.out
          have zf := fun i => frozenB HZ.out i
          go_wp2_with fail
          refine bodyPost_ret (v := .tuple #[.agg #[.int .i64 0, .int .i64 0, .int .i64 0, .int .i64 0, .int .i64 0], .slice none 0 0, .int .i64 (0 : Nat), .int .i64 251]) (results_cell_tmp3 (q1 := 3) (q2 := 4) (q3 := 5) (ty := 27) (ad := ⟨w.heap.size, 0, none⟩) rfl _ rfl (by go_simp)) rfl (read_err HBAD.out ?_)
          exact HK.out.own5 (Nat.le_refl _) _ _ _ _ _
        | cons l ls =>
          rw [hLL] at hRR hash
          have hown := HO.out
          rw [hLL] at hown
          simp only at hRR
          have hnl : (l :: ls).length ≤ 8001 := by rw [← hLL]; omega
          obtain ⟨g, rfl, hc0⟩ := OwnS.at hown (i := 0) (x := l) rfl
          unfold strV at hc0
          obtain ⟨nL, hnL⟩ : ∃ n, n = (l :: ls).length := ⟨_, rfl⟩
          have hnp : 1 ≤ nL := by rw [hnL]; simp
          have hn0 : ¬ ((nL : Int) = 0) := by omega
          have hn0b : ((nL : Int) == 0) = false := by rw [beq_eq_false_iff_ne]; exact hn0
          rw [← hnL] at hnl hown ⊢
          have hrw : readW true l ls = RR := by
            rw [← hRR]; unfold readW
            cases settingsR l with
            | none => rfl
            | some c => simp only; cases goOver 1 ls [] <;> rfl
          have HNL := Lib.hid hnL
          have HOL := Lib.hid hown
          have HRS := Lib.hid hrw
          have HLS := Lib.hid hash
          clear hnL hown hRR hrw hash hLL hLi HO
          go_wp2_with fail
          have hl9 : l.length ≤ 9000 := by have := HLS.out l (by simp); have := HSZ.out; omega
          have hwo := HWO.out l hl9
          have hsr : settingsR l = if headC (candT l) = l then some (candT l) else none := rfl
          have hcf := candT_fits l
          have hcat : ∀ i, i < 5 → (candT l).at i = (refV ((wordsF 5 [] l).getD (i + 1) [])).1 := fun i hi => by
            rcases (by omega : i = 0 ∨ i = 1 ∨ i = 2 ∨ i = 3 ∨ i = 4) with rfl | rfl | rfl | rfl | rfl <;> rfl
          have hwl : ∀ i, ((wordsF 5 [] l).getD i []).length ≤ 9000 := fun i => by
            rw [List.getD_eq_getElem?_getD]
            cases h : (wordsF 5 [] l)[i]? with
            | none => simp
            | some x => have := words_len l 5 [] x (List.mem_of_getElem? h); simp only [List.length_nil, Option.getD_some] at this ⊢; omega
          have hwn := wordsF_len l 5 []
          have hhd := HHD.out _ hcf
          have hw5 : (6 - 1 : Nat) = 5 := rfl
          rw [hw5] at hwo
          generalize wordsF 5 [] l = Wd at *
          generalize candT l = C at *
          have HSR := Lib.hid hsr
          have HCF := Lib.hid hcf
          have HCAT := Lib.hid hcat
          have HWL := Lib.hid hwl
          have HHD2 := Lib.hid hhd
          have HWO2 := Lib.hid hwo
          clear hsr hcf hcat hwl hhd hwo hw5 HWO
          refine (HWO2.out _).mono ?_
          rintro e w4 ⟨vW, rfl, hoW, hk4⟩
          have HK4 := Lib.hid (HK.out.trans hk4)
          have HZ4 := Lib.hid (hk4.heap HZ.out (fun h => h))
          have HOL4 := Lib.hid (OwnM.kept HOL.out hk4)
          have hb4 : wr.heap.size ≤ w4.heap.size := hk4.size
          obtain ⟨wap, wcap, rfl, _⟩ := OwnM.form hoW
          have hka := Kept.allocd w4 (.cells (([[], [], [], [], []] : List Bs).map strV).toArray 9)
          have HOW := Lib.hid (OwnM.alloc hoW (.cells (([[], [], [], [], []] : List Bs).map strV).toArray 9))
          have HNW := Lib.hid (heap_alloc_new w4 (.cells (([[], [], [], [], []] : List Bs).map strV).toArray 9))
          have HKa := Lib.hid (HK4.out.trans hka)
          have HZa := Lib.hid (hka.heap HZ4.out (fun h => h))
          have HOLa := Lib.hid (OwnM.kept HOL4.out hka)
          have hba : wr.heap.size ≤ (w4.alloc (.cells (([[], [], [], [], []] : List Bs).map strV).toArray 9)).heap.size := by simp; omega
          have hza := lt_of_heap HZ.out
          clear hk4 hoW hka hc0 HK HZ
          obtain ⟨nW, hnW⟩ : ∃ n, n = Wd.length := ⟨_, rfl⟩
          rw [← hnW] at HOW ⊢
          have hnW6 : nW ≤ 6 := by omega
          have hnW1 : 1 ≤ nW := by omega
          have HNWd := Lib.hid hnW
          have HOW2 : Hid (OwnS _ _ _ Wd) := Lib.hid (by have h := HOW.out; rw [hnW] at h; exact h)
          rw [← hnW] at HOW2
          clear hnW hwn HOW
          go_wp2_with (at_builtin; refine wpList_appSL rfl _ _ (by rfl) wr.heap.size _ Wd (by rfl) HOW2.out w4.heap.size 5 [[], [], [], [], []] rfl (by rfl) HNW.out (by have := HNWd.out; simp only [List.length_cons, List.length_nil]; omega) hba ?_; intro v5 w5 hown5 hg5; refine Hid.out ?_)
          have HK5 := Lib.hid (Kept.app HKa.out HOW2.out (by omega) hg5)
          have hblk : ∀ k, (Value.slice wap nW wcap).ownBlock = some k → wr.heap.size ≤ k := fun k e => (OwnM.lt HOW2.out k e).1
          have HZ5 := Lib.hid (show w5.heap[w.heap.size]? = some (.cells #[.int .i64 0, .int .i64 0, .int .i64 0, .int .i64 0, .int .i64 0] 27 (0, 0)) from by
            rw [hg5.block w.heap.size (by simp; omega) (fun e => by have := hblk _ e.symm; omega)]; exact HZa.out)
          have hgW : g < wr.heap.size := (OwnM.lt HOL.out g rfl).2
          have hgB : B ≤ g := (OwnM.lt HOL.out g rfl).1
          have HOL5 : Hid (OwnS w5 B (.slice (some ⟨g, 0, none⟩) nL cap) (l :: ls)) := Lib.hid (OwnM.keptB (S := fun k => wr.heap.size ≤ k) HOLa.out ⟨hg5.os, hg5.tape, hg5.output, hg5.size, fun k hk hn => hg5.block k hk (fun e => hn (hblk _ e.symm))⟩ (by omega))
          have hb5 : B ≤ w5.heap.size := by have := hg5.size; simp at this; omega
          have hz5 := lt_of_heap HZ5.out
          obtain ⟨ap5, cap5, rfl, _⟩ := hown5.form
          obtain ⟨gW, rfl, _⟩ := OwnS.at hown5 (i := 5) (x := (Wd ++ [[], [], [], [], []]).getD 5 []) (by rw [List.getD_eq_getElem?_getD]; have : 5 < (Wd ++ [[], [], [], [], []]).length := by (rw [List.length_append]; have := HNWd.out; simp only [List.length_cons, List.length_nil]; omega)
                                                                                                          rw [List.getElem?_eq_getElem this]; rfl)
          have hW5 : ∀ i, i ≤ 5 → ∀ W, Kept NoBlock w5 W → W.cell? ⟨gW, i, none⟩ = some (.string ⟨(Wd.getD i []).toArray⟩) := fun i hi W hk => by
            obtain ⟨g', e', hc⟩ := OwnS.at (OwnM.kept hown5 hk) (i := i) (x := Wd.getD i []) (by
              have hl : i < (Wd ++ [[], [], [], [], []]).length := by (rw [List.length_append]; have := HNWd.out; simp only [List.length_cons, List.length_nil]; omega)
              rw [List.getElem?_eq_getElem hl, List.getD_eq_getElem?_getD]
              congr 1
              by_cases h : i < Wd.length
              · rw [List.getElem_append_left h, List.getElem?_eq_getElem h]; rfl
              · rw [List.getElem_append_right (by omega), List.getElem?_eq_none (by omega)]
                have : i - Wd.length = 0 ∨ i - Wd.length = 1 ∨ i - Wd.length = 2 ∨ i - Wd.length = 3 ∨ i - Wd.length = 4 := by have := HNWd.out; omega
                have hq : ∀ (k : Nat) (hk : k < 5) (h' : k < ([[], [], [], [], []] : List Bs).length), ([[], [], [], [], []] : List Bs)[k] = [] := fun k hk h' => by
                  rcases (by omega : k = 0 ∨ k = 1 ∨ k = 2 ∨ k = 3 ∨ k = 4) with rfl | rfl | rfl | rfl | rfl <;> rfl
                exact hq _ (by omega) _)
            cases e'
            exact hc
          obtain ⟨n6, hn6⟩ : ∃ n, n = (Wd ++ [[], [], [], [], []]).length := ⟨_, rfl⟩
          have hn6b : 6 ≤ n6 := by rw [hn6, List.length_append]; have := HNWd.out; simp only [List.length_cons, List.length_nil]; omega
          have hn6c : n6 ≤ 11 := by rw [hn6, List.length_append]; have := HNWd.out; simp only [List.length_cons, List.length_nil]; omega
          rw [← hn6]
          have b1 : (1 : Int) < (n6 : Int) := by omega
          have b2 : (2 : Int) < (n6 : Int) := by omega
          have b3 : (3 : Int) < (n6 : Int) := by omega
          have b4 : (4 : Int) < (n6 : Int) := by omega
          have b5 : (5 : Int) < (n6 : Int) := by omega
          have HCW : Hid (∀ W, Kept NoBlock w5 W → W.cell? ⟨gW, 1, none⟩ = some (.string ⟨(Wd.getD 1 []).toArray⟩) ∧ W.cell? ⟨gW, 2, none⟩ = some (.string ⟨(Wd.getD 2 []).toArray⟩) ∧ W.cell? ⟨gW, 3, none⟩ = some (.string ⟨(Wd.getD 3 []).toArray⟩) ∧ W.cell? ⟨gW, 4, none⟩ = some (.string ⟨(Wd.getD 4 []).toArray⟩) ∧ W.cell? ⟨gW, 5, none⟩ = some (.string ⟨(Wd.getD 5 []).toArray⟩)) :=
            Lib.hid fun W hk => ⟨hW5 1 (by omega) W hk, hW5 2 (by omega) W hk, hW5 3 (by omega) W hk, hW5 4 (by omega) W hk, hW5 5 (by omega) W hk⟩
          have hs1 := fun W => HSG.out _ (HWL.out 1) W
          have hs2 := fun W => HSG.out _ (HWL.out 2) W
          have hs3 := fun W => HSG.out _ (HWL.out 3) W
          have hs4 := fun W => HSG.out _ (HWL.out 4) W
          have hs5 := fun W => HSG.out _ (HWL.out 5) W
          have e0 : (refV (Wd.getD 1 [])).1 = C.c0 := (HCAT.out 0 (by omega)).symm
          have e1 : (refV (Wd.getD 2 [])).1 = C.c1 := (HCAT.out 1 (by omega)).symm
          have e2 : (refV (Wd.getD 3 [])).1 = C.c2 := (HCAT.out 2 (by omega)).symm
          have e3 : (refV (Wd.getD 4 [])).1 = C.c3 := (HCAT.out 3 (by omega)).symm
          have e4 : (refV (Wd.getD 5 [])).1 = C.c4 := (HCAT.out 4 (by omega)).symm
          rw [e0] at hs1; rw [e1] at hs2; rw [e2] at hs3; rw [e3] at hs4; rw [e4] at hs5
          clear hn6 hW5 hown5 hg5 e0 e1 e2 e3 e4 HNWd HOW2 HNW HZa HKa HOLa HOL4 HZ4 HK4 hblk
          generalize (⟨(Wd.getD 1 []).toArray⟩ : ByteArray) = X1 at *
          generalize (⟨(Wd.getD 2 []).toArray⟩ : ByteArray) = X2 at *
          generalize (⟨(Wd.getD 3 []).toArray⟩ : ByteArray) = X3 at *
          generalize (⟨(Wd.getD 4 []).toArray⟩ : ByteArray) = X4 at *
          generalize (⟨(Wd.getD 5 []).toArray⟩ : ByteArray) = X5 at *
          have HS1 := Lib.hid hs1
          have HS2 := Lib.hid hs2
          have HS3 := Lib.hid hs3
          have HS4 := Lib.hid hs4
          have HS5 := Lib.hid hs5
          clear hs1 hs2 hs3 hs4 hs5 HCAT HWL HSG
          refine Lib.hid ?_
          go_wp2_with fail
          refine wp_planC (fun W => Kept NoBlock w5 W) 24 [.flt 0, .flt 1, .flt 2, .flt 3, .flt 4, .flt 5, .flt 6, .flt 7, .flt 8, .flt 9, .flt 10, .flt 11, .flt 12, .flt 13, .flt 14, .flt 15, .flt 16, .flt 17, .flt 18, .flt 19, .flt 20, .flt 21, .flt 22, .seg [] 23, .seg [] 24] [] (by kernel_rfl) (by kernel_rfl) (fun _ _ _ dst _ h => by cases dst <;> exact h) (fun _ _ h => h.drewN _) (Kept.refl _ _) (fun q0 => ?_)
          simp only [wpPlanC, pick, List.filterMap_cons, List.filterMap_nil, List.getElem?_cons_succ, List.getElem?_cons_zero]
          (refine wpFloat_ex rfl ?_; apply Exists.intro; refine ⟨fun w' hw' => ?_, ?_⟩; (obtain ⟨u1, u2, u3, u4, u5⟩ := HCW.out w' hw'; go_simp; first | rfl | exact ⟨rfl, rfl⟩); simp only [Act.put, List.setIfInBounds_toArray, List.set_cons_succ, List.set_cons_zero])
          (refine wpFloat_ex rfl ?_; apply Exists.intro; refine ⟨fun w' hw' => ?_, ?_⟩; (obtain ⟨u1, u2, u3, u4, u5⟩ := HCW.out w' hw'; go_simp; first | rfl | exact ⟨rfl, rfl⟩); simp only [Act.put, List.setIfInBounds_toArray, List.set_cons_succ, List.set_cons_zero])
          (refine wpFloat_ex rfl ?_; apply Exists.intro; refine ⟨fun w' hw' => ?_, ?_⟩; (obtain ⟨u1, u2, u3, u4, u5⟩ := HCW.out w' hw'; go_simp; first | rfl | exact ⟨rfl, rfl⟩); simp only [Act.put, List.setIfInBounds_toArray, List.set_cons_succ, List.set_cons_zero])
          (refine wpFloat_ex rfl ?_; apply Exists.intro; refine ⟨fun w' hw' => ?_, ?_⟩; (go_simp; exact (HS1.out w').mono (fun e w'' h => ⟨h.1, h.2.symm⟩)); simp only [Act.put, List.setIfInBounds_toArray, List.set_cons_succ, List.set_cons_zero])
          (refine wpFloat_ex rfl ?_; apply Exists.intro; refine ⟨fun w' hw' => ?_, ?_⟩; (obtain ⟨u1, u2, u3, u4, u5⟩ := HCW.out w' hw'; go_simp; first | rfl | exact ⟨rfl, rfl⟩); simp only [Act.put, List.setIfInBounds_toArray, List.set_cons_succ, List.set_cons_zero])
          (refine wpFloat_ex rfl ?_; apply Exists.intro; refine ⟨fun w' hw' => ?_, ?_⟩; (obtain ⟨u1, u2, u3, u4, u5⟩ := HCW.out w' hw'; go_simp; first | rfl | exact ⟨rfl, rfl⟩); simp only [Act.put, List.setIfInBounds_toArray, List.set_cons_succ, List.set_cons_zero])
          (refine wpFloat_ex rfl ?_; apply Exists.intro; refine ⟨fun w' hw' => ?_, ?_⟩; (obtain ⟨u1, u2, u3, u4, u5⟩ := HCW.out w' hw'; go_simp; first | rfl | exact ⟨rfl, rfl⟩); simp only [Act.put, List.setIfInBounds_toArray, List.set_cons_succ, List.set_cons_zero])
          (refine wpFloat_ex rfl ?_; apply Exists.intro; refine ⟨fun w' hw' => ?_, ?_⟩; (go_simp; exact (HS2.out w').mono (fun e w'' h => ⟨h.1, h.2.symm⟩)); simp only [Act.put, List.setIfInBounds_toArray, List.set_cons_succ, List.set_cons_zero])
          (refine wpFloat_ex rfl ?_; apply Exists.intro; refine ⟨fun w' hw' => ?_, ?_⟩; (obtain ⟨u1, u2, u3, u4, u5⟩ := HCW.out w' hw'; go_simp; first | rfl | exact ⟨rfl, rfl⟩); simp only [Act.put, List.setIfInBounds_toArray, List.set_cons_succ, List.set_cons_zero])
          (refine wpFloat_ex rfl ?_; apply Exists.intro; refine ⟨fun w' hw' => ?_, ?_⟩; (obtain ⟨u1, u2, u3, u4, u5⟩ := HCW.out w' hw'; go_simp; first | rfl | exact ⟨rfl, rfl⟩); simp only [Act.put, List.setIfInBounds_toArray, List.set_cons_succ, List.set_cons_zero])
          (refine wpFloat_ex rfl ?_; apply Exists.intro; refine ⟨fun w' hw' => ?_, ?_⟩; (obtain ⟨u1, u2, u3, u4, u5⟩ := HCW.out w' hw'; go_simp; first | rfl | exact ⟨rfl, rfl⟩); simp only [Act.put, List.setIfInBounds_toArray, List.set_cons_succ, List.set_cons_zero])
          (refine wpFloat_ex rfl ?_; apply Exists.intro; refine ⟨fun w' hw' => ?_, ?_⟩; (go_simp; exact (HS3.out w').mono (fun e w'' h => ⟨h.1, h.2.symm⟩)); simp only [Act.put, List.setIfInBounds_toArray, List.set_cons_succ, List.set_cons_zero])
          (refine wpFloat_ex rfl ?_; apply Exists.intro; refine ⟨fun w' hw' => ?_, ?_⟩; (obtain ⟨u1, u2, u3, u4, u5⟩ := HCW.out w' hw'; go_simp; first | rfl | exact ⟨rfl, rfl⟩); simp only [Act.put, List.setIfInBounds_toArray, List.set_cons_succ, List.set_cons_zero])
          (refine wpFloat_ex rfl ?_; apply Exists.intro; refine ⟨fun w' hw' => ?_, ?_⟩; (obtain ⟨u1, u2, u3, u4, u5⟩ := HCW.out w' hw'; go_simp; first | rfl | exact ⟨rfl, rfl⟩); simp only [Act.put, List.setIfInBounds_toArray, List.set_cons_succ, List.set_cons_zero])
          (refine wpFloat_ex rfl ?_; apply Exists.intro; refine ⟨fun w' hw' => ?_, ?_⟩; (obtain ⟨u1, u2, u3, u4, u5⟩ := HCW.out w' hw'; go_simp; first | rfl | exact ⟨rfl, rfl⟩); simp only [Act.put, List.setIfInBounds_toArray, List.set_cons_succ, List.set_cons_zero])
          (refine wpFloat_ex rfl ?_; apply Exists.intro; refine ⟨fun w' hw' => ?_, ?_⟩; (go_simp; exact (HS4.out w').mono (fun e w'' h => ⟨h.1, h.2.symm⟩)); simp only [Act.put, List.setIfInBounds_toArray, List.set_cons_succ, List.set_cons_zero])
          (refine wpFloat_ex rfl ?_; apply Exists.intro; refine ⟨fun w' hw' => ?_, ?_⟩; (obtain ⟨u1, u2, u3, u4, u5⟩ := HCW.out w' hw'; go_simp; first | rfl | exact ⟨rfl, rfl⟩); simp only [Act.put, List.setIfInBounds_toArray, List.set_cons_succ, List.set_cons_zero])
          (refine wpFloat_ex rfl ?_; apply Exists.intro; refine ⟨fun w' hw' => ?_, ?_⟩; (obtain ⟨u1, u2, u3, u4, u5⟩ := HCW.out w' hw'; go_simp; first | rfl | exact ⟨rfl, rfl⟩); simp only [Act.put, List.setIfInBounds_toArray, List.set_cons_succ, List.set_cons_zero])
          (refine wpFloat_ex rfl ?_; apply Exists.intro; refine ⟨fun w' hw' => ?_, ?_⟩; (obtain ⟨u1, u2, u3, u4, u5⟩ := HCW.out w' hw'; go_simp; first | rfl | exact ⟨rfl, rfl⟩); simp only [Act.put, List.setIfInBounds_toArray, List.set_cons_succ, List.set_cons_zero])
          (refine wpFloat_ex rfl ?_; apply Exists.intro; refine ⟨fun w' hw' => ?_, ?_⟩; (obtain ⟨u1, u2, u3, u4, u5⟩ := HCW.out w' hw'; go_simp; first | rfl | exact ⟨rfl, rfl⟩); simp only [Act.put, List.setIfInBounds_toArray, List.set_cons_succ, List.set_cons_zero])
          (refine wpFloat_ex rfl ?_; apply Exists.intro; refine ⟨fun w' hw' => ?_, ?_⟩; (go_simp; exact (HS5.out w').mono (fun e w'' h => ⟨h.1, h.2.symm⟩)); simp only [Act.put, List.setIfInBounds_toArray, List.set_cons_succ, List.set_cons_zero])
          (refine wpFloat_ex rfl ?_; apply Exists.intro; refine ⟨fun w' hw' => ?_, ?_⟩; (obtain ⟨u1, u2, u3, u4, u5⟩ := HCW.out w' hw'; go_simp; first | rfl | exact ⟨rfl, rfl⟩); simp only [Act.put, List.setIfInBounds_toArray, List.set_cons_succ, List.set_cons_zero])
          (refine wpFloat_ex rfl ?_; apply Exists.intro; refine ⟨fun w' hw' => ?_, ?_⟩; (obtain ⟨u1, u2, u3, u4, u5⟩ := HCW.out w' hw'; go_simp; first | rfl | exact ⟨rfl, rfl⟩); simp only [Act.put, List.setIfInBounds_toArray, List.set_cons_succ, List.set_cons_zero])
          clear HS1 HS2 HS3 HS4 HS5 HCW b1 b2 b3 b4 b5 hn6b hn6c HWO2 hba
          have HG6 := Lib.hid (show ((w5.drewN q0).alloc (.cells #[.int .i64 0, .int .i64 0, .int .i64 0, .int .i64 0, .int .i64 0] 27)).heap[w5.heap.size]? = some (.cells #[.int .i64 0, .int .i64 0, .int .i64 0, .int .i64 0, .int .i64 0] 27 (0, 0)) from heap_alloc_new (w5.drewN q0) _)
          have HK6 := Lib.hid (Kept.alloc ((Kept.refl NoBlock w5).drewN q0) (.cells #[.int .i64 0, .int .i64 0, .int .i64 0, .int .i64 0, .int .i64 0] 27))
          go_wp2_with fail
          generalize (w5.drewN q0).alloc (.cells #[.int .i64 0, .int .i64 0, .int .i64 0, .int .i64 0, .int .i64 0] 27) = W6 at *
          refine Halt.mk ⟨.inr HK6.out, ?_⟩
          have hz6 := fun i => frozenB HG6.out i
          obtain ⟨c0, c1, c2, c3, c4⟩ := blk5 HG6.out
          go_wp2_with fail
          refine Halt.mk ⟨.inl trivial, ?_⟩
          have hzw : ¬ (w.heap.size = w5.heap.size) := by omega
          have HC7 := Lib.hid (show (((((W6.setCell ⟨w5.heap.size, 0, none⟩ (.int .i64 C.c0)).setCell ⟨w5.heap.size, 1, none⟩ (.int .i64 C.c1)).setCell ⟨w5.heap.size, 2, none⟩ (.int .i64 C.c2)).setCell ⟨w5.heap.size, 3, none⟩ (.int .i64 C.c3)).setCell ⟨w5.heap.size, 4, none⟩ (.int .i64 C.c4)).heap[w5.heap.size]? = some (.cells #[.int .i64 C.c0, .int .i64 C.c1, .int .i64 C.c2, .int .i64 C.c3, .int .i64 C.c4] 27 (0, 0)) from
            heap_setCell_same (heap_setCell_same (heap_setCell_same (heap_setCell_same (heap_setCell_same HG6.out 0 (.int .i64 C.c0)) 1 (.int .i64 C.c1)) 2 (.int .i64 C.c2)) 3 (.int .i64 C.c3)) 4 (.int .i64 C.c4))
          have HK7 := Lib.hid ((HK5.out.trans HK6.out).own5 (g := w5.heap.size) (by omega) (.int .i64 C.c0) (.int .i64 C.c1) (.int .i64 C.c2) (.int .i64 C.c3) (.int .i64 C.c4))
          have HZ7 := Lib.hid (heap_own5_ne (HK6.out.heap HZ5.out (fun h => h)) hzw (.int .i64 C.c0) (.int .i64 C.c1) (.int .i64 C.c2) (.int .i64 C.c3) (.int .i64 C.c4))
          have HOL7 := Lib.hid (OwnM.kept HOL5.out (HK6.out.own5 (g := w5.heap.size) (Nat.le_refl _) (.int .i64 C.c0) (.int .i64 C.c1) (.int .i64 C.c2) (.int .i64 C.c3) (.int .i64 C.c4)))
          generalize ((((W6.setCell ⟨w5.heap.size, 0, none⟩ (.int .i64 C.c0)).setCell ⟨w5.heap.size, 1, none⟩ (.int .i64 C.c1)).setCell ⟨w5.heap.size, 2, none⟩ (.int .i64 C.c2)).setCell ⟨w5.heap.size, 3, none⟩ (.int .i64 C.c3)).setCell ⟨w5.heap.size, 4, none⟩ (.int .i64 C.c4) = W7 at *
          generalize w5.heap.size = hc at *
          clear hz6 c0 c1 c2 c3 c4 HG6 HK6 HK5 HZ5 HOL5 q0
          have hlg : OwnS W7 B (.slice (some ⟨g, 0, none⟩) nL cap) (l :: ls) := HOL7.out
          obtain ⟨T, hT⟩ : ∃ T : ByteArray, T = ⟨(headC C).toArray⟩ := ⟨_, rfl⟩
          obtain ⟨T0, hT0⟩ : ∃ T : ByteArray, T = ⟨l.toArray⟩ := ⟨_, rfl⟩
          have hl0 : ∀ W, Kept NoBlock W7 W → W.cell? ⟨g, 0, none⟩ = some (.string T0) := fun W hk => by
            obtain ⟨g', e', h⟩ := OwnS.at (OwnM.kept HOL7.out hk) (i := 0) (x := l) rfl
            cases e'
            rw [hT0]
            exact h
          have HL0 := Lib.hid hl0
          have hhd := HHD2.out
          rw [← hT] at hhd
          unfold confV at hhd
          have HHE := Lib.hid hhd
          have HT := Lib.hid hT
          have HT0 := Lib.hid hT0
          clear hlg hl0 hhd hT hT0 HHD2
          have hnp0 : 0 < nL := hnp
          go_wp2_with fail
          refine wp_planC (fun W => Kept NoBlock W7 W) 6 [.flt 2, .flt 3, .flt 4, .seg [0] 1] [5] (by kernel_rfl) (by kernel_rfl) (fun _ _ _ dst _ h => by cases dst <;> exact h) (fun _ _ h => h.drewN _) (Kept.refl _ _) (fun q0 => ?_)
          simp only [wpPlanC, pick, List.filterMap_cons, List.filterMap_nil, List.getElem?_cons_succ, List.getElem?_cons_zero]
          iterate 3 (refine wpFloat_ex rfl ?_; apply Exists.intro; refine ⟨fun w' hw' => ?_, ?_⟩; (have u0 := HL0.out w' hw'; go_simp; first | rfl | exact ⟨rfl, rfl⟩); simp only [Act.put, List.setIfInBounds_toArray, List.set_cons_succ, List.set_cons_zero])
          obtain ⟨d0, d1, d2, d3, d4⟩ := blk5 HC7.out
          repeat (quiet_step (fail))
          refine wpQuiet_nil ?_
          rintro _ ⟨q1, rfl⟩
          go_wp2_with fail
          refine (HHE.out _).mono ?_
          rintro e w8 ⟨rfl, hk8⟩
          have hk78 : Kept NoBlock W7 w8 := ((Kept.refl NoBlock W7).drewN _).trans hk8
          have HK78 := Lib.hid hk78
          have HK8 := Lib.hid (HK7.out.trans hk78)
          have HZ8 := Lib.hid (hk78.heap HZ7.out (fun h => h))
          have HC8 := Lib.hid (hk78.heap HC7.out (fun h => h))
          have HOL8 := Lib.hid (OwnM.kept HOL7.out hk78)
          clear hk8 hk78 d0 d1 d2 d3 d4 HHE HL0 HK7 HZ7 HC7 HOL7 HHD
          by_cases hL : headC C = l
          · have hgd : RR = (match goOver 1 ls [] with | .error k => .error k | .ok ds => if true then .ok (C, ds) else .error ls.length) := by
              rw [← HRS.out]; unfold readW; rw [HSR.out, if_pos hL]
            have HRG := Lib.hid hgd
            have htt : T = T0 := by rw [HT.out, HT0.out, hL]
            subst htt
            clear hgd hL HSR HRS HT HT0
            go_wp2_with fail
            refine Halt.mk ⟨.inr HK78.out, ?_⟩
            repeat (quiet_step (fail))
            refine wpQuiet_nil ?_
            rintro _ ⟨q2, rfl⟩
            go_wp2_with fail
            have HK9 := Lib.hid (HK8.out.drewN q2)
            have HZ9 : Hid ((w8.drewN q2).heap[w.heap.size]? = _) := Lib.hid HZ8.out
            have HC9 : Hid ((w8.drewN q2).heap[hc]? = _) := Lib.hid HC8.out
            have HOL9 := Lib.hid (OwnM.drewN HOL8.out q2)
            have hch := lt_of_heap HC9.out
            clear HK8 HZ8 HC8 HOL8 HK78
            generalize w8.drewN q2 = w9 at *
            have hgh : g < w9.heap.size := (OwnM.lt HOL9.out g rfl).2
            obtain ⟨B2, hB2⟩ : ∃ n, n = w9.heap.size := ⟨_, rfl⟩
            rw [← hB2] at hch hgh
            have hB29 : B2 ≤ w9.heap.size := by omega
            have hzB : w.heap.size < B2 := by have := lt_of_heap HZ9.out; omega
            generalize hMG : goOver 1 ls [] = MG at *
            have HMG := Lib.hid hMG
            have hls : ls.length + 1 = nL := by have := HNL.out; rw [List.length_cons] at this; omega
            have HLN := Lib.hid hls
            clear hB2 hMG hls HNL
            go_loopw [12, 13] (fun vo vi wr => ∃ (i : Nat) (ps : List (Deed × Value)), vi = .int .i64 i ∧ 1 ≤ i ∧ i ≤ nL ∧ ps.length + 1 = i ∧ OwnD wr B2 vo ps ∧ TypL wr ps ∧ goOver i (ls.drop (i - 1)) (ps.map (·.1)) = MG ∧ OwnS wr B (.slice (some ⟨g, 0, none⟩) nL cap) (l :: ls) ∧ Kept NoBlock w wr ∧ B2 ≤ wr.heap.size ∧
                wr.heap[w.heap.size]? = some (.cells #[.int .i64 0, .int .i64 0, .int .i64 0, .int .i64 0, .int .i64 0] 27 (0, 0)) ∧ wr.heap[hc]? = some (.cells #[.int .i64 C.c0, .int .i64 C.c1, .int .i64 C.c2, .int .i64 C.c3, .int .i64 C.c4] 27 (0, 0))) (fun _ vi _ => nL - (intOf vi).toNat)
            case atStart => exact ⟨1, [], rfl, Nat.le_refl _, hnp, rfl, OwnD.nil _ _, fun p hp => (by cases hp), HMG.out, HOL9.out, HK9.out, hB29, HZ9.out, HC9.out⟩
            case round =>
              obtain ⟨i, ps, rfl, hi1, hi2, hpl, hown, htyp, hgo, hol, hk, hbs2, hz, hcc⟩ := hrel
              obtain ⟨ap, cap2, rfl, _⟩ := hown.form
              have HPL := Lib.hid hpl
              have HO := Lib.hid hown
              have HTY := Lib.hid htyp
              have HGO := Lib.hid hgo
              have HOW := Lib.hid hol
              have HK := Lib.hid hk
              have HZ := Lib.hid hz
              have HYC := Lib.hid hcc
              have hpb9 : ps.length ≤ 8001 := by omega
              clear hpl hown htyp hgo hol hk hz hcc HK9 HZ9 HC9 HOL9 HMG
              by_cases hlt2 : i < nL
              · obtain ⟨x, hx⟩ : ∃ x, x = ls[i - 1]'(by have := HLN.out; omega) := ⟨_, rfl⟩
                have hdr : ls.drop (i - 1) = x :: ls.drop i := by
                  have hq : i - 1 < ls.length := by have := HLN.out; omega
                  rw [List.drop_eq_getElem_cons hq, ← hx, show i - 1 + 1 = i from by omega]
                have hxm : x ∈ l :: ls := by rw [hx]; exact List.mem_cons_of_mem _ (List.getElem_mem _)
                have hx9 : x.length ≤ 9000 := by have := HLS.out x hxm; have := HSZ.out; omega
                have hxi : (l :: ls)[i]? = some x := by
                  obtain ⟨k, rfl⟩ : ∃ k, i = k + 1 := ⟨i - 1, by omega⟩
                  rw [List.getElem?_cons_succ, hx, List.getElem?_eq_getElem (by have := HLN.out; omega)]
                  rfl
                have hgo := HGO.out
                rw [hdr, goOver] at hgo
                obtain ⟨g', e', hcx⟩ := OwnS.at HOW.out hxi
                cases e'
                have hp1 := HPA.out x hx9
                obtain ⟨X, hX⟩ : ∃ X : ByteArray, X = ⟨x.toArray⟩ := ⟨_, rfl⟩
                unfold strV at hcx
                rw [← hX] at hcx hp1
                have hca : wr.cell? ((⟨g, 0, none⟩ : Addr).add i) = some (.string X) := by rw [addr_add, Nat.zero_add]; exact hcx
                have HP1 := Lib.hid hp1
                have HST := Lib.hid hgo
                clear hX hp1 hgo hxi hx9 hxm hdr hx HGO
                generalize parseP x = r at *
                go_wp2_with fail
                refine (HP1.out _ HK.out).mono ?_
                rintro e w6 ⟨hk, hend⟩
                have HK6 := Lib.hid (HK.out.trans hk)
                have HO6 := Lib.hid (HO.out.kept hk)
                have HTY6 := Lib.hid (HTY.out.kept hk)
                have HOW6 := Lib.hid (OwnM.kept HOW.out hk)
                have HZ6 := Lib.hid (hk.heap HZ.out (fun h => h))
                have HYC6 := Lib.hid (hk.heap HYC.out (fun h => h))
                have hbs6 : B2 ≤ w6.heap.size := Nat.le_trans hbs2 hk.size
                clear hk HK HO HTY HZ HYC HP1 HOW hcx hca
                have hzl := lt_of_heap HZ6.out
                cases r with
                | none =>
                  obtain ⟨v, rfl, hv⟩ := hend
                  obtain ⟨bv, rfl, hb⟩ := hv
                  obtain ⟨bp, bc, rfl, _⟩ := hb.parts
                  have hbad : RR = .error i := by
                    have h2 : MG = .error i := HST.out.symm
                    rw [HRG.out, h2]
                  have HBAD := Lib.hid hbad
                  clear hbad hb HST
                  obtain ⟨z0, z1, z2, z3, z4⟩ := blk5 HZ6.out
                  have zf := fun i => frozenB HZ6.out i
                  go_wp2_with fail
                  refine bodyPost_ret (v := .tuple #[.agg #[.int .i64 0, .int .i64 0, .int .i64 0, .int .i64 0, .int .i64 0], .slice none 0 0, .int .i64 (i : Nat), .int .i64 251]) (results_cell_tmp3 (q1 := 3) (q2 := 4) (q3 := 5) (ty := 27) (ad := ⟨w.heap.size, 0, none⟩) rfl _ rfl (by go_simp)) rfl (read_err HBAD.out ?_)
                  exact (HK6.out.own5 (Nat.le_refl _) _ _ _ _ _).alloc _
                | some d =>
                  obtain ⟨bv, rfl, hb, ht⟩ := hend
                  obtain ⟨bp, bc, rfl, _⟩ := hb.parts
                  have hst2 : goOver (i + 1) (ls.drop i) (ps.map (·.1) ++ [d]) = MG := HST.out
                  have HST2 := Lib.hid hst2
                  have HB := Lib.hid hb
                  have HT := Lib.hid ht
                  clear hst2 hb ht HST
                  obtain ⟨pn, hpn⟩ : ∃ pn, pn = ps.length := ⟨_, rfl⟩
                  have hpI : ¬ ((pn : Int) = 1048576) := by omega
                  have hpb : ((pn : Int) == 1048576) = false := by rw [beq_eq_false_iff_ne]; exact hpI
                  rw [← hpn] at HO6 ⊢
                  have HPN := Lib.hid hpn
                  clear hpn
                  have hnw : ((w6.alloc (.cells #[.int .i64 d.kind, .int .i64 d.a, .int .i64 d.n, .int .u64 d.draw, .slice bp d.b.length bc] 45)).alloc (.cells #[.int .i64 d.kind, .int .i64 d.a, .int .i64 d.n, .int .u64 d.draw, .slice bp d.b.length bc] 45)).heap[w6.heap.size + 1]? = some (.cells #[.int .i64 d.kind, .int .i64 d.a, .int .i64 d.n, .int .u64 d.draw, .slice bp d.b.length bc] 45 (0, 0)) := by
                    have := heap_alloc_new (w6.alloc (.cells #[.int .i64 d.kind, .int .i64 d.a, .int .i64 d.n, .int .u64 d.draw, .slice bp d.b.length bc] 45)) (.cells #[.int .i64 d.kind, .int .i64 d.a, .int .i64 d.n, .int .u64 d.draw, .slice bp d.b.length bc] 45)
                    rwa [World.size_alloc] at this
                  have HNW := Lib.hid hnw
                  have hk8 : Kept NoBlock w6 ((w6.alloc (.cells #[.int .i64 d.kind, .int .i64 d.a, .int .i64 d.n, .int .u64 d.draw, .slice bp d.b.length bc] 45)).alloc (.cells #[.int .i64 d.kind, .int .i64 d.a, .int .i64 d.n, .int .u64 d.draw, .slice bp d.b.length bc] 45)) := (Kept.allocd w6 _).alloc _
                  have HO8 : Hid (OwnD _ B2 (.slice ap pn cap2) ps) := Lib.hid (HO6.out.kept hk8)
                  have HTY8 := Lib.hid (show TypL _ (ps ++ [(d, .slice bp d.b.length bc)]) from fun p hp => by
                    rcases List.mem_append.1 hp with hp | hp
                    · exact HTY6.out.kept hk8 p hp
                    · obtain rfl := List.mem_singleton.1 hp
                      exact ⟨HB.out.keptNo hk8, HT.out.kept hk8⟩)
                  have HK8 := Lib.hid (HK6.out.trans hk8)
                  have HZ8 := Lib.hid (hk8.heap HZ6.out (fun h => h))
                  have HYC8 := Lib.hid (hk8.heap HYC6.out (fun h => h))
                  have HOW8 := Lib.hid (OwnM.kept HOW6.out hk8)
                  clear hnw hk8
                  go_wp2_with (at_builtin; refine wpList_appD rfl _ _ (by rfl) B2 _ ps (by rfl) HO8.out (w6.heap.size + 1) (d, .slice bp d.b.length bc) (by rfl) HNW.out rfl (by have := HPN.out; omega) (by simp; omega) ?_; intro v3 w9' hown3 hg3; refine Hid.out ?_)
                  have HO9 := Lib.hid hown3
                  have HTY9 := Lib.hid (HTY8.out.grown HO8.out hg3)
                  have HK9 := Lib.hid (Kept.appD HK8.out HO8.out (Nat.le_of_lt hzB) hg3)
                  have hlt8 := (HO8.out.lt)
                  have HZ9 := Lib.hid (show w9'.heap[w.heap.size]? = some (.cells #[.int .i64 0, .int .i64 0, .int .i64 0, .int .i64 0, .int .i64 0] 27 (0, 0)) from by
                    rw [hg3.block w.heap.size (by simp; omega) (fun e => by have := hlt8 _ e.symm; omega)]; exact HZ8.out)
                  have HYC9 := Lib.hid (show w9'.heap[hc]? = some (.cells #[.int .i64 C.c0, .int .i64 C.c1, .int .i64 C.c2, .int .i64 C.c3, .int .i64 C.c4] 27 (0, 0)) from by
                    rw [hg3.block hc (by simp; omega) (fun e => by have := hlt8 _ e.symm; omega)]; exact HYC8.out)
                  have HOW9 := Lib.hid (OwnM.keptB (S := fun k => B2 ≤ k) HOW8.out ⟨hg3.os, hg3.tape, hg3.output, hg3.size, fun k hk hn => hg3.block k hk (fun e => hn (hlt8 _ e.symm).1)⟩ (by omega))
                  have hbs9 : B2 ≤ w9'.heap.size := by have := hg3.size; simp at this; omega
                  obtain ⟨ap9, cap9, rfl, _⟩ := hown3.form
                  clear hown3 hg3 hlt8
                  refine Lib.hid ?_
                  go_wp2
                  go_roundw
                  case rel => exact ⟨i + 1, ps ++ [(d, .slice bp d.b.length bc)], by go_num, by omega, by omega, by have := HPL.out; rw [List.length_append, List.length_singleton]; omega, HO9.out, HTY9.out, by rw [List.map_append]; exact HST2.out, HOW9.out, HK9.out, hbs9, HZ9.out, HYC9.out⟩
                  case measure => simp [intOf]; omega
              · have hfin : MG = .ok (ps.map (·.1)) := by
                  have := HGO.out
                  rw [List.drop_of_length_le (by have := HLN.out; omega), goOver] at this
                  exact this.symm
                have hRR := HRG.out
                rw [hfin] at hRR
                have hRR2 : RR = .ok (C, ps.map (·.1)) := hRR
                have HRRR := Lib.hid hRR2
                clear hfin hRR hRR2 HRG HGO
                obtain ⟨z0, z1, z2, z3, z4⟩ := blk5 HZ.out
                have zf := fun i => frozenB HZ.out i
                obtain ⟨y0, y1, y2, y3, y4⟩ := blk5 HYC.out
                have hst : ∀ v0 v1 v2 v3 v4, Kept (fun k => k = w.heap.size) wr (((((wr.setCell ⟨w.heap.size, 0, none⟩ v0).setCell ⟨w.heap.size, 1, none⟩ v1).setCell ⟨w.heap.size, 2, none⟩ v2).setCell ⟨w.heap.size, 3, none⟩ v3).setCell ⟨w.heap.size, 4, none⟩ v4) := fun v0 v1 v2 v3 v4 => ((((Kept.one wr _ 0 v0).one' 1 v1).one' 2 v2).one' 3 v3).one' 4 v4
                have HST := Lib.hid hst
                clear hst
                generalize ps.length = pn at *
                go_wp2_with fail
                refine bodyPost_ret (v := .tuple #[.agg #[.int .i64 C.c0, .int .i64 C.c1, .int .i64 C.c2, .int .i64 C.c3, .int .i64 C.c4], .slice ap pn cap2, .int .i64 0, .int .i64 0]) (results_cell_tmp3 (q1 := 3) (q2 := 4) (q3 := 5) (ty := 27) (ad := ⟨w.heap.size, 0, none⟩) rfl _ rfl (by go_simp)) rfl (read_ok (c := C) (ps := ps) HRRR.out (HK.out.own5 (Nat.le_refl _) _ _ _ _ _) rfl ?_ ?_)
                · exact (HO.out.keptS (HST.out _ _ _ _ _) (fun k hk e => by omega)).deeds
                · exact (HTY.out.keptH HZ.out (by decide) (HST.out _ _ _ _ _)).bytes
          · have hbad : RR = .error 0 := by
              rw [← HRS.out]; unfold readW; rw [HSR.out, if_neg hL]
            have HBAD := Lib.hid hbad
            have hse : ¬ (T = T0) := fun h => hL (by rw [HT.out, HT0.out] at h; simpa using h)
            have hse' : (T.toList == T0.toList) = false := by
              rw [beq_eq_false_iff_ne, Go.ByteArray.toList_eq, Go.ByteArray.toList_eq]
              exact fun h => hse (ByteArray.ext (Array.ext' h))
            clear hbad hL HSR HRS HT HT0
            go_wp2_with fail
            refine Halt.mk ⟨.inr HK78.out, ?_⟩
            repeat (quiet_step (fail))
            refine wpQuiet_nil ?_
            rintro _ ⟨q2, rfl⟩
            obtain ⟨z0, z1, z2, z3, z4⟩ := blk5 HZ8.out
            have zf := fun i => frozenB HZ8.out i
            go_wp2_with fail
            refine bodyPost_ret (v := .tuple #[.agg #[.int .i64 0, .int .i64 0, .int .i64 0, .int .i64 0, .int .i64 0], .slice none 0 0, .int .i64 (0 : Nat), .int .i64 251]) (results_cell_tmp3 (q1 := 3) (q2 := 4) (q3 := 5) (ty := 27) (ad := ⟨w.heap.size, 0, none⟩) rfl _ rfl (by go_simp)) rfl (read_err HBAD.out ?_)
            exact (HK8.out.drewN _).own5 (Nat.le_refl _) _ _ _ _ _
      · have hfS : f < S.size := by omega
        have hwh : MM.2 = s.drop f := hM2.symm
        have hne : ¬ (MM.2 = []) := fun h => by
          have h2 := congrArg List.length (hwh.symm.trans h)
          rw [List.length_drop, List.length_nil] at h2
          omega
        have hRR := HRR.out
        have hash := HASH.out
        have hal := HAL.out
        rw [if_neg hne] at hRR hash hal
        simp only [hne, if_false] at hRR
        have hext : Value.string (S.extract f S.size) = strV (s.drop f) := by
          unfold strV
          rw [show S.extract f S.size = S.extract f s.length from by rw [HSZ.out], HS.out, str_part, List.take_of_length_le (Nat.le_refl _)]
        have HU := Lib.hid hext
        have HNE := Lib.hid hne
        rw [hwh] at hRR hash hal
        obtain ⟨l, ls, hLL⟩ : ∃ l ls, MM.1 ++ [s.drop f] = l :: ls := by
          cases h : MM.1 ++ [s.drop f] with
          | nil => simp at h
          | cons l ls => exact ⟨l, ls, rfl⟩
        have HLL := Lib.hid hLL
        rw [hLL] at hRR hash hal
        simp only at hRR
        have hrw : readW false l ls = RR := by
          rw [← hRR]; unfold readW
          cases settingsR l with
          | none => rfl
          | some c => simp only; cases goOver 1 ls [] <;> rfl
        have HRS := Lib.hid hrw
        have HLS := Lib.hid hash
        have hnl0 : (l :: ls).length ≤ 8001 := by have := HSZ.out; omega
        have HN0 := Lib.hid hnl0
        have hfI : ¬ ((f : Int) = (S.size : Int)) := by omega
        have hfb : ((f : Int) == (S.size : Int)) = false := by rw [beq_eq_false_iff_ne]; exact hfI
        have hfn : (f == S.size) = false := by rw [beq_eq_false_iff_ne]; exact hend
        have hfd : decide (f = S.size) = false := decide_eq_false hend
        clear hM2 HRR HASH HAL hwh hext hne hLL hRR hash hal hrw hlw hnl0
        go_wp2_with (at_builtin; refine wpList_appS rfl _ _ (by rfl) B _ MM.1 (by rfl) (OwnM.alloc HO.out _) wr.heap.size (s.drop f) (by rfl) (by rw [HU.out]; exact heap_alloc_new wr _) (by omega) (by simp; omega) ?_; intro v3 w3 hown3 hg3; refine Hid.out ?_)
        have HK := Lib.hid (Kept.app (HK.out.trans (Kept.allocd wr _)) (OwnM.alloc HO.out _) (Nat.le_of_lt hBw) hg3)
        have hbs : B ≤ w3.heap.size := by have := hg3.size; simp at this; omega
        have hsz : w.heap.size ≤ w3.heap.size := by omega
        have HZ := Lib.hid (show w3.heap[w.heap.size]? = some (.cells #[.int .i64 0, .int .i64 0, .int .i64 0, .int .i64 0, .int .i64 0] 27 (0, 0)) from by
          rw [hg3.block w.heap.size (by simp; omega) (fun e => by have := OwnM.lt HO.out _ e.symm; omega)]
          exact (Kept.allocd wr _).heap HZ.out (fun h => h))
        have hown : OwnS w3 B v3 (l :: ls) := by rw [← HLL.out]; exact hown3
        have hnl := HN0.out
        obtain ⟨ap, cap, rfl, _⟩ := hown.form
        obtain ⟨g, rfl, hc0⟩ := OwnS.at hown (i := 0) (x := l) rfl
        unfold strV at hc0
        obtain ⟨nL, hnL⟩ : ∃ n, n = (l :: ls).length := ⟨_, rfl⟩
        have hnp : 1 ≤ nL := by rw [hnL]; simp
        have hn0 : ¬ ((nL : Int) = 0) := by omega
        have hn0b : ((nL : Int) == 0) = false := by rw [beq_eq_false_iff_ne]; exact hn0
        rw [← hnL] at hnl hown ⊢
        have HNL := Lib.hid hnL
        have HOL := Lib.hid hown
        clear hnL hown hown3 hg3 HO HU HLL HN0 HNE
        refine Lib.hid ?_
        go_wp2_with fail
        have hl9 : l.length ≤ 9000 := by have := HLS.out l (by simp); have := HSZ.out; omega
        have hwo := HWO.out l hl9
        have hsr : settingsR l = if headC (candT l) = l then some (candT l) else none := rfl
        have hcf := candT_fits l
        have hcat : ∀ i, i < 5 → (candT l).at i = (refV ((wordsF 5 [] l).getD (i + 1) [])).1 := fun i hi => by
          rcases (by omega : i = 0 ∨ i = 1 ∨ i = 2 ∨ i = 3 ∨ i = 4) with rfl | rfl | rfl | rfl | rfl <;> rfl
        have hwl : ∀ i, ((wordsF 5 [] l).getD i []).length ≤ 9000 := fun i => by
          rw [List.getD_eq_getElem?_getD]
          cases h : (wordsF 5 [] l)[i]? with
          | none => simp
          | some x => have := words_len l 5 [] x (List.mem_of_getElem? h); simp only [List.length_nil, Option.getD_some] at this ⊢; omega
        have hwn := wordsF_len l 5 []
        have hhd := HHD.out _ hcf
        have hw5 : (6 - 1 : Nat) = 5 := rfl
        rw [hw5] at hwo
        generalize wordsF 5 [] l = Wd at *
        generalize candT l = C at *
        have HSR := Lib.hid hsr
        have HCF := Lib.hid hcf
        have HCAT := Lib.hid hcat
        have HWL := Lib.hid hwl
        have HHD2 := Lib.hid hhd
        have HWO2 := Lib.hid hwo
        clear hsr hcf hcat hwl hhd hwo hw5 HWO
        refine (HWO2.out _).mono ?_
        rintro e w4 ⟨vW, rfl, hoW, hk4⟩
        have HK4 := Lib.hid (HK.out.trans hk4)
        have HZ4 := Lib.hid (hk4.heap HZ.out (fun h => h))
        have HOL4 := Lib.hid (OwnM.kept HOL.out hk4)
        have hb4 : w3.heap.size ≤ w4.heap.size := hk4.size
        obtain ⟨wap, wcap, rfl, _⟩ := OwnM.form hoW
        have hka := Kept.allocd w4 (.cells (([[], [], [], [], []] : List Bs).map strV).toArray 9)
        have HOW := Lib.hid (OwnM.alloc hoW (.cells (([[], [], [], [], []] : List Bs).map strV).toArray 9))
        have HNW := Lib.hid (heap_alloc_new w4 (.cells (([[], [], [], [], []] : List Bs).map strV).toArray 9))
        have HKa := Lib.hid (HK4.out.trans hka)
        have HZa := Lib.hid (hka.heap HZ4.out (fun h => h))
        have HOLa := Lib.hid (OwnM.kept HOL4.out hka)
        have hba : w3.heap.size ≤ (w4.alloc (.cells (([[], [], [], [], []] : List Bs).map strV).toArray 9)).heap.size := by simp; omega
        have hza := lt_of_heap HZ.out
        clear hk4 hoW hka hc0 HK HZ
        obtain ⟨nW, hnW⟩ : ∃ n, n = Wd.length := ⟨_, rfl⟩
        rw [← hnW] at HOW ⊢
        have hnW6 : nW ≤ 6 := by omega
        have hnW1 : 1 ≤ nW := by omega
        have HNWd := Lib.hid hnW
        have HOW2 : Hid (OwnS _ _ _ Wd) := Lib.hid (by have h := HOW.out; rw [hnW] at h; exact h)
        rw [← hnW] at HOW2
        clear hnW hwn HOW
        go_wp2_with (at_builtin; refine wpList_appSL rfl _ _ (by rfl) w3.heap.size _ Wd (by rfl) HOW2.out w4.heap.size 5 [[], [], [], [], []] rfl (by rfl) HNW.out (by have := HNWd.out; simp only [List.length_cons, List.length_nil]; omega) hba ?_; intro v5 w5 hown5 hg5; refine Hid.out ?_)
        have HK5 := Lib.hid (Kept.app HKa.out HOW2.out (by omega) hg5)
        have hblk : ∀ k, (Value.slice wap nW wcap).ownBlock = some k → w3.heap.size ≤ k := fun k e => (OwnM.lt HOW2.out k e).1
        have HZ5 := Lib.hid (show w5.heap[w.heap.size]? = some (.cells #[.int .i64 0, .int .i64 0, .int .i64 0, .int .i64 0, .int .i64 0] 27 (0, 0)) from by
          rw [hg5.block w.heap.size (by simp; omega) (fun e => by have := hblk _ e.symm; omega)]; exact HZa.out)
        have hgW : g < w3.heap.size := (OwnM.lt HOL.out g rfl).2
        have hgB : B ≤ g := (OwnM.lt HOL.out g rfl).1
        have HOL5 : Hid (OwnS w5 B (.slice (some ⟨g, 0, none⟩) nL cap) (l :: ls)) := Lib.hid (OwnM.keptB (S := fun k => w3.heap.size ≤ k) HOLa.out ⟨hg5.os, hg5.tape, hg5.output, hg5.size, fun k hk hn => hg5.block k hk (fun e => hn (hblk _ e.symm))⟩ (by omega))
        have hb5 : B ≤ w5.heap.size := by have := hg5.size; simp at this; omega
        have hz5 := lt_of_heap HZ5.out
        obtain ⟨ap5, cap5, rfl, _⟩ := hown5.form
        obtain ⟨gW, rfl, _⟩ := OwnS.at hown5 (i := 5) (x := (Wd ++ [[], [], [], [], []]).getD 5 []) (by rw [List.getD_eq_getElem?_getD]; have : 5 < (Wd ++ [[], [], [], [], []]).length := by (rw [List.length_append]; have := HNWd.out; simp only [List.length_cons, List.length_nil]; omega)
                                                                                                        rw [List.getElem?_eq_getElem this]; rfl)
        have hW5 : ∀ i, i ≤ 5 → ∀ W, Kept NoBlock w5 W → W.cell? ⟨gW, i, none⟩ = some (.string ⟨(Wd.getD i []).toArray⟩) := fun i hi W hk => by
          obtain ⟨g', e', hc⟩ := OwnS.at (OwnM.kept hown5 hk) (i := i) (x := Wd.getD i []) (by
            have hl : i < (Wd ++ [[], [], [], [], []]).length := by (rw [List.length_append]; have := HNWd.out; simp only [List.length_cons, List.length_nil]; omega)
            rw [List.getElem?_eq_getElem hl, List.getD_eq_getElem?_getD]
            congr 1
            by_cases h : i < Wd.length
            · rw [List.getElem_append_left h, List.getElem?_eq_getElem h]; rfl
            · rw [List.getElem_append_right (by omega), List.getElem?_eq_none (by omega)]
              have : i - Wd.length = 0 ∨ i - Wd.length = 1 ∨ i - Wd.length = 2 ∨ i - Wd.length = 3 ∨ i - Wd.length = 4 := by have := HNWd.out; omega
              have hq : ∀ (k : Nat) (hk : k < 5) (h' : k < ([[], [], [], [], []] : List Bs).length), ([[], [], [], [], []] : List Bs)[k] = [] := fun k hk h' => by
                rcases (by omega : k = 0 ∨ k = 1 ∨ k = 2 ∨ k = 3 ∨ k = 4) with rfl | rfl | rfl | rfl | rfl <;> rfl
              exact hq _ (by omega) _)
          cases e'
          exact hc
        obtain ⟨n6, hn6⟩ : ∃ n, n = (Wd ++ [[], [], [], [], []]).length := ⟨_, rfl⟩
        have hn6b : 6 ≤ n6 := by rw [hn6, List.length_append]; have := HNWd.out; simp only [List.length_cons, List.length_nil]; omega
        have hn6c : n6 ≤ 11 := by rw [hn6, List.length_append]; have := HNWd.out; simp only [List.length_cons, List.length_nil]; omega
        rw [← hn6]
        have b1 : (1 : Int) < (n6 : Int) := by omega
        have b2 : (2 : Int) < (n6 : Int) := by omega
        have b3 : (3 : Int) < (n6 : Int) := by omega
        have b4 : (4 : Int) < (n6 : Int) := by omega
        have b5 : (5 : Int) < (n6 : Int) := by omega
        have HCW : Hid (∀ W, Kept NoBlock w5 W → W.cell? ⟨gW, 1, none⟩ = some (.string ⟨(Wd.getD 1 []).toArray⟩) ∧ W.cell? ⟨gW, 2, none⟩ = some (.string ⟨(Wd.getD 2 []).toArray⟩) ∧ W.cell? ⟨gW, 3, none⟩ = some (.string ⟨(Wd.getD 3 []).toArray⟩) ∧ W.cell? ⟨gW, 4, none⟩ = some (.string ⟨(Wd.getD 4 []).toArray⟩) ∧ W.cell? ⟨gW, 5, none⟩ = some (.string ⟨(Wd.getD 5 []).toArray⟩)) :=
          Lib.hid fun W hk => ⟨hW5 1 (by omega) W hk, hW5 2 (by omega) W hk, hW5 3 (by omega) W hk, hW5 4 (by omega) W hk, hW5 5 (by omega) W hk⟩
        have hs1 := fun W => HSG.out _ (HWL.out 1) W
        have hs2 := fun W => HSG.out _ (HWL.out 2) W
        have hs3 := fun W => HSG.out _ (HWL.out 3) W
        have hs4 := fun W => HSG.out _ (HWL.out 4) W
        have hs5 := fun W => HSG.out _ (HWL.out 5) W
        have e0 : (refV (Wd.getD 1 [])).1 = C.c0 := (HCAT.out 0 (by omega)).symm
        have e1 : (refV (Wd.getD 2 [])).1 = C.c1 := (HCAT.out 1 (by omega)).symm
        have e2 : (refV (Wd.getD 3 [])).1 = C.c2 := (HCAT.out 2 (by omega)).symm
        have e3 : (refV (Wd.getD 4 [])).1 = C.c3 := (HCAT.out 3 (by omega)).symm
        have e4 : (refV (Wd.getD 5 [])).1 = C.c4 := (HCAT.out 4 (by omega)).symm
        rw [e0] at hs1; rw [e1] at hs2; rw [e2] at hs3; rw [e3] at hs4; rw [e4] at hs5
        clear hn6 hW5 hown5 hg5 e0 e1 e2 e3 e4 HNWd HOW2 HNW HZa HKa HOLa HOL4 HZ4 HK4 hblk
        generalize (⟨(Wd.getD 1 []).toArray⟩ : ByteArray) = X1 at *
        generalize (⟨(Wd.getD 2 []).toArray⟩ : ByteArray) = X2 at *
        generalize (⟨(Wd.getD 3 []).toArray⟩ : ByteArray) = X3 at *
        generalize (⟨(Wd.getD 4 []).toArray⟩ : ByteArray) = X4 at *
        generalize (⟨(Wd.getD 5 []).toArray⟩ : ByteArray) = X5 at *
        have HS1 := Lib.hid hs1
        have HS2 := Lib.hid hs2
        have HS3 := Lib.hid hs3
        have HS4 := Lib.hid hs4
        have HS5 := Lib.hid hs5
        clear hs1 hs2 hs3 hs4 hs5 HCAT HWL HSG
        refine Lib.hid ?_
        go_wp2_with fail
        refine wp_planC (fun W => Kept NoBlock w5 W) 24 [.flt 0, .flt 1, .flt 2, .flt 3, .flt 4, .flt 5, .flt 6, .flt 7, .flt 8, .flt 9, .flt 10, .flt 11, .flt 12, .flt 13, .flt 14, .flt 15, .flt 16, .flt 17, .flt 18, .flt 19, .flt 20, .flt 21, .flt 22, .seg [] 23, .seg [] 24] [] (by kernel_rfl) (by kernel_rfl) (fun _ _ _ dst _ h => by cases dst <;> exact h) (fun _ _ h => h.drewN _) (Kept.refl _ _) (fun q0 => ?_)
        simp only [wpPlanC, pick, List.filterMap_cons, List.filterMap_nil, List.getElem?_cons_succ, List.getElem?_cons_zero]
        (refine wpFloat_ex rfl ?_; apply Exists.intro; refine ⟨fun w' hw' => ?_, ?_⟩; (obtain ⟨u1, u2, u3, u4, u5⟩ := HCW.out w' hw'; go_simp; first | rfl | exact ⟨rfl, rfl⟩); simp only [Act.put, List.setIfInBounds_toArray, List.set_cons_succ, List.set_cons_zero])
        (refine wpFloat_ex rfl ?_; apply Exists.intro; refine ⟨fun w' hw' => ?_, ?_⟩; (obtain ⟨u1, u2, u3, u4, u5⟩ := HCW.out w' hw'; go_simp; first | rfl | exact ⟨rfl, rfl⟩); simp only [Act.put, List.setIfInBounds_toArray, List.set_cons_succ, List.set_cons_zero])
        (refine wpFloat_ex rfl ?_; apply Exists.intro; refine ⟨fun w' hw' => ?_, ?_⟩; (obtain ⟨u1, u2, u3, u4, u5⟩ := HCW.out w' hw'; go_simp; first | rfl | exact ⟨rfl, rfl⟩); simp only [Act.put, List.setIfInBounds_toArray, List.set_cons_succ, List.set_cons_zero])
        (refine wpFloat_ex rfl ?_; apply Exists.intro; refine ⟨fun w' hw' => ?_, ?_⟩; (go_simp; exact (HS1.out w').mono (fun e w'' h => ⟨h.1, h.2.symm⟩)); simp only [Act.put, List.setIfInBounds_toArray, List.set_cons_succ, List.set_cons_zero])
        (refine wpFloat_ex rfl ?_; apply Exists.intro; refine ⟨fun w' hw' => ?_, ?_⟩; (obtain ⟨u1, u2, u3, u4, u5⟩ := HCW.out w' hw'; go_simp; first | rfl | exact ⟨rfl, rfl⟩); simp only [Act.put, List.setIfInBounds_toArray, List.set_cons_succ, List.set_cons_zero])
        (refine wpFloat_ex rfl ?_; apply Exists.intro; refine ⟨fun w' hw' => ?_, ?_⟩; (obtain ⟨u1, u2, u3, u4, u5⟩ := HCW.out w' hw'; go_simp; first | rfl | exact ⟨rfl, rfl⟩); simp only [Act.put, List.setIfInBounds_toArray, List.set_cons_succ, List.set_cons_zero])
        (refine wpFloat_ex rfl ?_; apply Exists.intro; refine ⟨fun w' hw' => ?_, ?_⟩; (obtain ⟨u1, u2, u3, u4, u5⟩ := HCW.out w' hw'; go_simp; first | rfl | exact ⟨rfl, rfl⟩); simp only [Act.put, List.setIfInBounds_toArray, List.set_cons_succ, List.set_cons_zero])
        (refine wpFloat_ex rfl ?_; apply Exists.intro; refine ⟨fun w' hw' => ?_, ?_⟩; (go_simp; exact (HS2.out w').mono (fun e w'' h => ⟨h.1, h.2.symm⟩)); simp only [Act.put, List.setIfInBounds_toArray, List.set_cons_succ, List.set_cons_zero])
        (refine wpFloat_ex rfl ?_; apply Exists.intro; refine ⟨fun w' hw' => ?_, ?_⟩; (obtain ⟨u1, u2, u3, u4, u5⟩ := HCW.out w' hw'; go_simp; first | rfl | exact ⟨rfl, rfl⟩); simp only [Act.put, List.setIfInBounds_toArray, List.set_cons_succ, List.set_cons_zero])
        (refine wpFloat_ex rfl ?_; apply Exists.intro; refine ⟨fun w' hw' => ?_, ?_⟩; (obtain ⟨u1, u2, u3, u4, u5⟩ := HCW.out w' hw'; go_simp; first | rfl | exact ⟨rfl, rfl⟩); simp only [Act.put, List.setIfInBounds_toArray, List.set_cons_succ, List.set_cons_zero])
        (refine wpFloat_ex rfl ?_; apply Exists.intro; refine ⟨fun w' hw' => ?_, ?_⟩; (obtain ⟨u1, u2, u3, u4, u5⟩ := HCW.out w' hw'; go_simp; first | rfl | exact ⟨rfl, rfl⟩); simp only [Act.put, List.setIfInBounds_toArray, List.set_cons_succ, List.set_cons_zero])
        (refine wpFloat_ex rfl ?_; apply Exists.intro; refine ⟨fun w' hw' => ?_, ?_⟩; (go_simp; exact (HS3.out w').mono (fun e w'' h => ⟨h.1, h.2.symm⟩)); simp only [Act.put, List.setIfInBounds_toArray, List.set_cons_succ, List.set_cons_zero])
        (refine wpFloat_ex rfl ?_; apply Exists.intro; refine ⟨fun w' hw' => ?_, ?_⟩; (obtain ⟨u1, u2, u3, u4, u5⟩ := HCW.out w' hw'; go_simp; first | rfl | exact ⟨rfl, rfl⟩); simp only [Act.put, List.setIfInBounds_toArray, List.set_cons_succ, List.set_cons_zero])
        (refine wpFloat_ex rfl ?_; apply Exists.intro; refine ⟨fun w' hw' => ?_, ?_⟩; (obtain ⟨u1, u2, u3, u4, u5⟩ := HCW.out w' hw'; go_simp; first | rfl | exact ⟨rfl, rfl⟩); simp only [Act.put, List.setIfInBounds_toArray, List.set_cons_succ, List.set_cons_zero])
        (refine wpFloat_ex rfl ?_; apply Exists.intro; refine ⟨fun w' hw' => ?_, ?_⟩; (obtain ⟨u1, u2, u3, u4, u5⟩ := HCW.out w' hw'; go_simp; first | rfl | exact ⟨rfl, rfl⟩); simp only [Act.put, List.setIfInBounds_toArray, List.set_cons_succ, List.set_cons_zero])
        (refine wpFloat_ex rfl ?_; apply Exists.intro; refine ⟨fun w' hw' => ?_, ?_⟩; (go_simp; exact (HS4.out w').mono (fun e w'' h => ⟨h.1, h.2.symm⟩)); simp only [Act.put, List.setIfInBounds_toArray, List.set_cons_succ, List.set_cons_zero])
        (refine wpFloat_ex rfl ?_; apply Exists.intro; refine ⟨fun w' hw' => ?_, ?_⟩; (obtain ⟨u1, u2, u3, u4, u5⟩ := HCW.out w' hw'; go_simp; first | rfl | exact ⟨rfl, rfl⟩); simp only [Act.put, List.setIfInBounds_toArray, List.set_cons_succ, List.set_cons_zero])
        (refine wpFloat_ex rfl ?_; apply Exists.intro; refine ⟨fun w' hw' => ?_, ?_⟩; (obtain ⟨u1, u2, u3, u4, u5⟩ := HCW.out w' hw'; go_simp; first | rfl | exact ⟨rfl, rfl⟩); simp only [Act.put, List.setIfInBounds_toArray, List.set_cons_succ, List.set_cons_zero])
        (refine wpFloat_ex rfl ?_; apply Exists.intro; refine ⟨fun w' hw' => ?_, ?_⟩; (obtain ⟨u1, u2, u3, u4, u5⟩ := HCW.out w' hw'; go_simp; first | rfl | exact ⟨rfl, rfl⟩); simp only [Act.put, List.setIfInBounds_toArray, List.set_cons_succ, List.set_cons_zero])
        (refine wpFloat_ex rfl ?_; apply Exists.intro; refine ⟨fun w' hw' => ?_, ?_⟩; (obtain ⟨u1, u2, u3, u4, u5⟩ := HCW.out w' hw'; go_simp; first | rfl | exact ⟨rfl, rfl⟩); simp only [Act.put, List.setIfInBounds_toArray, List.set_cons_succ, List.set_cons_zero])
        (refine wpFloat_ex rfl ?_; apply Exists.intro; refine ⟨fun w' hw' => ?_, ?_⟩; (go_simp; exact (HS5.out w').mono (fun e w'' h => ⟨h.1, h.2.symm⟩)); simp only [Act.put, List.setIfInBounds_toArray, List.set_cons_succ, List.set_cons_zero])
        (refine wpFloat_ex rfl ?_; apply Exists.intro; refine ⟨fun w' hw' => ?_, ?_⟩; (obtain ⟨u1, u2, u3, u4, u5⟩ := HCW.out w' hw'; go_simp; first | rfl | exact ⟨rfl, rfl⟩); simp only [Act.put, List.setIfInBounds_toArray, List.set_cons_succ, List.set_cons_zero])
        (refine wpFloat_ex rfl ?_; apply Exists.intro; refine ⟨fun w' hw' => ?_, ?_⟩; (obtain ⟨u1, u2, u3, u4, u5⟩ := HCW.out w' hw'; go_simp; first | rfl | exact ⟨rfl, rfl⟩); simp only [Act.put, List.setIfInBounds_toArray, List.set_cons_succ, List.set_cons_zero])
        clear HS1 HS2 HS3 HS4 HS5 HCW b1 b2 b3 b4 b5 hn6b hn6c HWO2 hba
        have HG6 := Lib.hid (show ((w5.drewN q0).alloc (.cells #[.int .i64 0, .int .i64 0, .int .i64 0, .int .i64 0, .int .i64 0] 27)).heap[w5.heap.size]? = some (.cells #[.int .i64 0, .int .i64 0, .int .i64 0, .int .i64 0, .int .i64 0] 27 (0, 0)) from heap_alloc_new (w5.drewN q0) _)
        have HK6 := Lib.hid (Kept.alloc ((Kept.refl NoBlock w5).drewN q0) (.cells #[.int .i64 0, .int .i64 0, .int .i64 0, .int .i64 0, .int .i64 0] 27))
        go_wp2_with fail
        generalize (w5.drewN q0).alloc (.cells #[.int .i64 0, .int .i64 0, .int .i64 0, .int .i64 0, .int .i64 0] 27) = W6 at *
        refine Halt.mk ⟨.inr HK6.out, ?_⟩
        have hz6 := fun i => frozenB HG6.out i
        obtain ⟨c0, c1, c2, c3, c4⟩ := blk5 HG6.out
        go_wp2_with fail
        refine Halt.mk ⟨.inl trivial, ?_⟩
        have hzw : ¬ (w.heap.size = w5.heap.size) := by omega
        have HC7 := Lib.hid (show (((((W6.setCell ⟨w5.heap.size, 0, none⟩ (.int .i64 C.c0)).setCell ⟨w5.heap.size, 1, none⟩ (.int .i64 C.c1)).setCell ⟨w5.heap.size, 2, none⟩ (.int .i64 C.c2)).setCell ⟨w5.heap.size, 3, none⟩ (.int .i64 C.c3)).setCell ⟨w5.heap.size, 4, none⟩ (.int .i64 C.c4)).heap[w5.heap.size]? = some (.cells #[.int .i64 C.c0, .int .i64 C.c1, .int .i64 C.c2, .int .i64 C.c3, .int .i64 C.c4] 27 (0, 0)) from
          heap_setCell_same (heap_setCell_same (heap_setCell_same (heap_setCell_same (heap_setCell_same HG6.out 0 (.int .i64 C.c0)) 1 (.int .i64 C.c1)) 2 (.int .i64 C.c2)) 3 (.int .i64 C.c3)) 4 (.int .i64 C.c4))
        have HK7 := Lib.hid ((HK5.out.trans HK6.out).own5 (g := w5.heap.size) (by omega) (.int .i64 C.c0) (.int .i64 C.c1) (.int .i64 C.c2) (.int .i64 C.c3) (.int .i64 C.c4))
        have HZ7 := Lib.hid (heap_own5_ne (HK6.out.heap HZ5.out (fun h => h)) hzw (.int .i64 C.c0) (.int .i64 C.c1) (.int .i64 C.c2) (.int .i64 C.c3) (.int .i64 C.c4))
        have HOL7 := Lib.hid (OwnM.kept HOL5.out (HK6.out.own5 (g := w5.heap.size) (Nat.le_refl _) (.int .i64 C.c0) (.int .i64 C.c1) (.int .i64 C.c2) (.int .i64 C.c3) (.int .i64 C.c4)))
        generalize ((((W6.setCell ⟨w5.heap.size, 0, none⟩ (.int .i64 C.c0)).setCell ⟨w5.heap.size, 1, none⟩ (.int .i64 C.c1)).setCell ⟨w5.heap.size, 2, none⟩ (.int .i64 C.c2)).setCell ⟨w5.heap.size, 3, none⟩ (.int .i64 C.c3)).setCell ⟨w5.heap.size, 4, none⟩ (.int .i64 C.c4) = W7 at *
        generalize w5.heap.size = hc at *
        clear hz6 c0 c1 c2 c3 c4 HG6 HK6 HK5 HZ5 HOL5 q0
        have hlg : OwnS W7 B (.slice (some ⟨g, 0, none⟩) nL cap) (l :: ls) := HOL7.out
        obtain ⟨T, hT⟩ : ∃ T : ByteArray, T = ⟨(headC C).toArray⟩ := ⟨_, rfl⟩
        obtain ⟨T0, hT0⟩ : ∃ T : ByteArray, T = ⟨l.toArray⟩ := ⟨_, rfl⟩
        have hl0 : ∀ W, Kept NoBlock W7 W → W.cell? ⟨g, 0, none⟩ = some (.string T0) := fun W hk => by
          obtain ⟨g', e', h⟩ := OwnS.at (OwnM.kept HOL7.out hk) (i := 0) (x := l) rfl
          cases e'
          rw [hT0]
          exact h
        have HL0 := Lib.hid hl0
        have hhd := HHD2.out
        rw [← hT] at hhd
        unfold confV at hhd
        have HHE := Lib.hid hhd
        have HT := Lib.hid hT
        have HT0 := Lib.hid hT0
        clear hlg hl0 hhd hT hT0 HHD2
        have hnp0 : 0 < nL := hnp
        go_wp2_with fail
        refine wp_planC (fun W => Kept NoBlock W7 W) 6 [.flt 2, .flt 3, .flt 4, .seg [0] 1] [5] (by kernel_rfl) (by kernel_rfl) (fun _ _ _ dst _ h => by cases dst <;> exact h) (fun _ _ h => h.drewN _) (Kept.refl _ _) (fun q0 => ?_)
        simp only [wpPlanC, pick, List.filterMap_cons, List.filterMap_nil, List.getElem?_cons_succ, List.getElem?_cons_zero]
        iterate 3 (refine wpFloat_ex rfl ?_; apply Exists.intro; refine ⟨fun w' hw' => ?_, ?_⟩; (have u0 := HL0.out w' hw'; go_simp; first | rfl | exact ⟨rfl, rfl⟩); simp only [Act.put, List.setIfInBounds_toArray, List.set_cons_succ, List.set_cons_zero])
        obtain ⟨d0, d1, d2, d3, d4⟩ := blk5 HC7.out
        repeat (quiet_step (fail))
        refine wpQuiet_nil ?_
        rintro _ ⟨q1, rfl⟩
        go_wp2_with fail
        refine (HHE.out _).mono ?_
        rintro e w8 ⟨rfl, hk8⟩
        have hk78 : Kept NoBlock W7 w8 := ((Kept.refl NoBlock W7).drewN _).trans hk8
        have HK78 := Lib.hid hk78
        have HK8 := Lib.hid (HK7.out.trans hk78)
        have HZ8 := Lib.hid (hk78.heap HZ7.out (fun h => h))
        have HC8 := Lib.hid (hk78.heap HC7.out (fun h => h))
        have HOL8 := Lib.hid (OwnM.kept HOL7.out hk78)
        clear hk8 hk78 d0 d1 d2 d3 d4 HHE HL0 HK7 HZ7 HC7 HOL7 HHD
        by_cases hL : headC C = l
        · have hgd : RR = (match goOver 1 ls [] with | .error k => .error k | .ok ds => if false then .ok (C, ds) else .error ls.length) := by
            rw [← HRS.out]; unfold readW; rw [HSR.out, if_pos hL]
          have HRG := Lib.hid hgd
          have htt : T = T0 := by rw [HT.out, HT0.out, hL]
          subst htt
          clear hgd hL HSR HRS HT HT0
          go_wp2_with fail
          refine Halt.mk ⟨.inr HK78.out, ?_⟩
          repeat (quiet_step (fail))
          refine wpQuiet_nil ?_
          rintro _ ⟨q2, rfl⟩
          go_wp2_with fail
          have HK9 := Lib.hid (HK8.out.drewN q2)
          have HZ9 : Hid ((w8.drewN q2).heap[w.heap.size]? = _) := Lib.hid HZ8.out
          have HC9 : Hid ((w8.drewN q2).heap[hc]? = _) := Lib.hid HC8.out
          have HOL9 := Lib.hid (OwnM.drewN HOL8.out q2)
          have hch := lt_of_heap HC9.out
          clear HK8 HZ8 HC8 HOL8 HK78
          generalize w8.drewN q2 = w9 at *
          have hgh : g < w9.heap.size := (OwnM.lt HOL9.out g rfl).2
          obtain ⟨B2, hB2⟩ : ∃ n, n = w9.heap.size := ⟨_, rfl⟩
          rw [← hB2] at hch hgh
          have hB29 : B2 ≤ w9.heap.size := by omega
          have hzB : w.heap.size < B2 := by have := lt_of_heap HZ9.out; omega
          generalize hMG : goOver 1 ls [] = MG at *
          have HMG := Lib.hid hMG
          have hls : ls.length + 1 = nL := by have := HNL.out; rw [List.length_cons] at this; omega
          have HLN := Lib.hid hls
          clear hB2 hMG hls HNL
          go_loopw [12, 13] (fun vo vi wr => ∃ (i : Nat) (ps : List (Deed × Value)), vi = .int .i64 i ∧ 1 ≤ i ∧ i ≤ nL ∧ ps.length + 1 = i ∧ OwnD wr B2 vo ps ∧ TypL wr ps ∧ goOver i (ls.drop (i - 1)) (ps.map (·.1)) = MG ∧ OwnS wr B (.slice (some ⟨g, 0, none⟩) nL cap) (l :: ls) ∧ Kept NoBlock w wr ∧ B2 ≤ wr.heap.size ∧
              wr.heap[w.heap.size]? = some (.cells #[.int .i64 0, .int .i64 0, .int .i64 0, .int .i64 0, .int .i64 0] 27 (0, 0)) ∧ wr.heap[hc]? = some (.cells #[.int .i64 C.c0, .int .i64 C.c1, .int .i64 C.c2, .int .i64 C.c3, .int .i64 C.c4] 27 (0, 0))) (fun _ vi _ => nL - (intOf vi).toNat)
          case atStart => exact ⟨1, [], rfl, Nat.le_refl _, hnp, rfl, OwnD.nil _ _, fun p hp => (by cases hp), HMG.out, HOL9.out, HK9.out, hB29, HZ9.out, HC9.out⟩
          case round =>
            obtain ⟨i, ps, rfl, hi1, hi2, hpl, hown, htyp, hgo, hol, hk, hbs2, hz, hcc⟩ := hrel
            obtain ⟨ap, cap2, rfl, _⟩ := hown.form
            have HPL := Lib.hid hpl
            have HO := Lib.hid hown
            have HTY := Lib.hid htyp
            have HGO := Lib.hid hgo
            have HOW := Lib.hid hol
            have HK := Lib.hid hk
            have HZ := Lib.hid hz
            have HYC := Lib.hid hcc
            have hpb9 : ps.length ≤ 8001 := by omega
            clear hpl hown htyp hgo hol hk hz hcc HK9 HZ9 HC9 HOL9 HMG
            by_cases hlt2 : i < nL
            · obtain ⟨x, hx⟩ : ∃ x, x = ls[i - 1]'(by have := HLN.out; omega) := ⟨_, rfl⟩
              have hdr : ls.drop (i - 1) = x :: ls.drop i := by
                have hq : i - 1 < ls.length := by have := HLN.out; omega
                rw [List.drop_eq_getElem_cons hq, ← hx, show i - 1 + 1 = i from by omega]
              have hxm : x ∈ l :: ls := by rw [hx]; exact List.mem_cons_of_mem _ (List.getElem_mem _)
              have hx9 : x.length ≤ 9000 := by have := HLS.out x hxm; have := HSZ.out; omega
              have hxi : (l :: ls)[i]? = some x := by
                obtain ⟨k, rfl⟩ : ∃ k, i = k + 1 := ⟨i - 1, by omega⟩
                rw [List.getElem?_cons_succ, hx, List.getElem?_eq_getElem (by have := HLN.out; omega)]
                rfl
              have hgo := HGO.out
              rw [hdr, goOver] at hgo
              obtain ⟨g', e', hcx⟩ := OwnS.at HOW.out hxi
              cases e'
              have hp1 := HPA.out x hx9
              obtain ⟨X, hX⟩ : ∃ X : ByteArray, X = ⟨x.toArray⟩ := ⟨_, rfl⟩
              unfold strV at hcx
              rw [← hX] at hcx hp1
              have hca : wr.cell? ((⟨g, 0, none⟩ : Addr).add i) = some (.string X) := by rw [addr_add, Nat.zero_add]; exact hcx
              have HP1 := Lib.hid hp1
              have HST := Lib.hid hgo
              clear hX hp1 hgo hxi hx9 hxm hdr hx HGO
              generalize parseP x = r at *
              go_wp2_with fail
              refine (HP1.out _ HK.out).mono ?_
              rintro e w6 ⟨hk, hend⟩
              have HK6 := Lib.hid (HK.out.trans hk)
              have HO6 := Lib.hid (HO.out.kept hk)
              have HTY6 := Lib.hid (HTY.out.kept hk)
              have HOW6 := Lib.hid (OwnM.kept HOW.out hk)
              have HZ6 := Lib.hid (hk.heap HZ.out (fun h => h))
              have HYC6 := Lib.hid (hk.heap HYC.out (fun h => h))
              have hbs6 : B2 ≤ w6.heap.size := Nat.le_trans hbs2 hk.size
              clear hk HK HO HTY HZ HYC HP1 HOW hcx hca
              have hzl := lt_of_heap HZ6.out
              cases r with
              | none =>
                obtain ⟨v, rfl, hv⟩ := hend
                obtain ⟨bv, rfl, hb⟩ := hv
                obtain ⟨bp, bc, rfl, _⟩ := hb.parts
                have hbad : RR = .error i := by
                  have h2 : MG = .error i := HST.out.symm
                  rw [HRG.out, h2]
                have HBAD := Lib.hid hbad
                clear hbad hb HST
                obtain ⟨z0, z1, z2, z3, z4⟩ := blk5 HZ6.out
                have zf := fun i => frozenB HZ6.out i
                go_wp2_with fail
                refine bodyPost_ret (v := .tuple #[.agg #[.int .i64 0, .int .i64 0, .int .i64 0, .int .i64 0, .int .i64 0], .slice none 0 0, .int .i64 (i : Nat), .int .i64 251]) (results_cell_tmp3 (q1 := 3) (q2 := 4) (q3 := 5) (ty := 27) (ad := ⟨w.heap.size, 0, none⟩) rfl _ rfl (by go_simp)) rfl (read_err HBAD.out ?_)
                exact (HK6.out.own5 (Nat.le_refl _) _ _ _ _ _).alloc _
              | some d =>
                obtain ⟨bv, rfl, hb, ht⟩ := hend
                obtain ⟨bp, bc, rfl, _⟩ := hb.parts
                have hst2 : goOver (i + 1) (ls.drop i) (ps.map (·.1) ++ [d]) = MG := HST.out
                have HST2 := Lib.hid hst2
                have HB := Lib.hid hb
                have HT := Lib.hid ht
                clear hst2 hb ht HST
                obtain ⟨pn, hpn⟩ : ∃ pn, pn = ps.length := ⟨_, rfl⟩
                have hpI : ¬ ((pn : Int) = 1048576) := by omega
                have hpb : ((pn : Int) == 1048576) = false := by rw [beq_eq_false_iff_ne]; exact hpI
                rw [← hpn] at HO6 ⊢
                have HPN := Lib.hid hpn
                clear hpn
                have hnw : ((w6.alloc (.cells #[.int .i64 d.kind, .int .i64 d.a, .int .i64 d.n, .int .u64 d.draw, .slice bp d.b.length bc] 45)).alloc (.cells #[.int .i64 d.kind, .int .i64 d.a, .int .i64 d.n, .int .u64 d.draw, .slice bp d.b.length bc] 45)).heap[w6.heap.size + 1]? = some (.cells #[.int .i64 d.kind, .int .i64 d.a, .int .i64 d.n, .int .u64 d.draw, .slice bp d.b.length bc] 45 (0, 0)) := by
                  have := heap_alloc_new (w6.alloc (.cells #[.int .i64 d.kind, .int .i64 d.a, .int .i64 d.n, .int .u64 d.draw, .slice bp d.b.length bc] 45)) (.cells #[.int .i64 d.kind, .int .i64 d.a, .int .i64 d.n, .int .u64 d.draw, .slice bp d.b.length bc] 45)
                  rwa [World.size_alloc] at this
                have HNW := Lib.hid hnw
                have hk8 : Kept NoBlock w6 ((w6.alloc (.cells #[.int .i64 d.kind, .int .i64 d.a, .int .i64 d.n, .int .u64 d.draw, .slice bp d.b.length bc] 45)).alloc (.cells #[.int .i64 d.kind, .int .i64 d.a, .int .i64 d.n, .int .u64 d.draw, .slice bp d.b.length bc] 45)) := (Kept.allocd w6 _).alloc _
                have HO8 : Hid (OwnD _ B2 (.slice ap pn cap2) ps) := Lib.hid (HO6.out.kept hk8)
                have HTY8 := Lib.hid (show TypL _ (ps ++ [(d, .slice bp d.b.length bc)]) from fun p hp => by
                  rcases List.mem_append.1 hp with hp | hp
                  · exact HTY6.out.kept hk8 p hp
                  · obtain rfl := List.mem_singleton.1 hp
                    exact ⟨HB.out.keptNo hk8, HT.out.kept hk8⟩)
                have HK8 := Lib.hid (HK6.out.trans hk8)
                have HZ8 := Lib.hid (hk8.heap HZ6.out (fun h => h))
                have HYC8 := Lib.hid (hk8.heap HYC6.out (fun h => h))
                have HOW8 := Lib.hid (OwnM.kept HOW6.out hk8)
                clear hnw hk8
                go_wp2_with (at_builtin; refine wpList_appD rfl _ _ (by rfl) B2 _ ps (by rfl) HO8.out (w6.heap.size + 1) (d, .slice bp d.b.length bc) (by rfl) HNW.out rfl (by have := HPN.out; omega) (by simp; omega) ?_; intro v3 w9' hown3 hg3; refine Hid.out ?_)
                have HO9 := Lib.hid hown3
                have HTY9 := Lib.hid (HTY8.out.grown HO8.out hg3)
                have HK9 := Lib.hid (Kept.appD HK8.out HO8.out (Nat.le_of_lt hzB) hg3)
                have hlt8 := (HO8.out.lt)
                have HZ9 := Lib.hid (show w9'.heap[w.heap.size]? = some (.cells #[.int .i64 0, .int .i64 0, .int .i64 0, .int .i64 0, .int .i64 0] 27 (0, 0)) from by
                  rw [hg3.block w.heap.size (by simp; omega) (fun e => by have := hlt8 _ e.symm; omega)]; exact HZ8.out)
                have HYC9 := Lib.hid (show w9'.heap[hc]? = some (.cells #[.int .i64 C.c0, .int .i64 C.c1, .int .i64 C.c2, .int .i64 C.c3, .int .i64 C.c4] 27 (0, 0)) from by
                  rw [hg3.block hc (by simp; omega) (fun e => by have := hlt8 _ e.symm; omega)]; exact HYC8.out)
                have HOW9 := Lib.hid (OwnM.keptB (S := fun k => B2 ≤ k) HOW8.out ⟨hg3.os, hg3.tape, hg3.output, hg3.size, fun k hk hn => hg3.block k hk (fun e => hn (hlt8 _ e.symm).1)⟩ (by omega))
                have hbs9 : B2 ≤ w9'.heap.size := by have := hg3.size; simp at this; omega
                obtain ⟨ap9, cap9, rfl, _⟩ := hown3.form
                clear hown3 hg3 hlt8
                refine Lib.hid ?_
                go_wp2
                go_roundw
                case rel => exact ⟨i + 1, ps ++ [(d, .slice bp d.b.length bc)], by go_num, by omega, by omega, by have := HPL.out; rw [List.length_append, List.length_singleton]; omega, HO9.out, HTY9.out, by rw [List.map_append]; exact HST2.out, HOW9.out, HK9.out, hbs9, HZ9.out, HYC9.out⟩
                case measure => simp [intOf]; omega
            · have hfin : MG = .ok (ps.map (·.1)) := by
                have := HGO.out
                rw [List.drop_of_length_le (by have := HLN.out; omega), goOver] at this
                exact this.symm
              have hRR := HRG.out
              rw [hfin] at hRR
              have hRR2 : RR = .error ls.length := hRR
              have HBAD := Lib.hid hRR2
              have hcast : ((nL : Int) - 1) = ((ls.length : Nat) : Int) := by have := HLN.out; omega
              clear hfin hRR hRR2 HRG HGO
              obtain ⟨z0, z1, z2, z3, z4⟩ := blk5 HZ.out
              have zf := fun i => frozenB HZ.out i
              have HCST := Lib.hid hcast
              clear hcast
              go_wp2_with fail
              refine bodyPost_ret (v := .tuple #[.agg #[.int .i64 0, .int .i64 0, .int .i64 0, .int .i64 0, .int .i64 0], .slice none 0 0, .int .i64 ((nL : Int) - 1), .int .i64 251]) (results_cell_tmp3 (q1 := 3) (q2 := 4) (q3 := 5) (ty := 27) (ad := ⟨w.heap.size, 0, none⟩) rfl _ rfl (by go_simp)) rfl ?_
              rw [HCST.out]
              exact read_err HBAD.out (HK.out.own5 (Nat.le_refl _) _ _ _ _ _)
        · have hbad : RR = .error 0 := by
            rw [← HRS.out]; unfold readW; rw [HSR.out, if_neg hL]
          have HBAD := Lib.hid hbad
          have hse : ¬ (T = T0) := fun h => hL (by rw [HT.out, HT0.out] at h; simpa using h)
          have hse' : (T.toList == T0.toList) = false := by
            rw [beq_eq_false_iff_ne, Go.ByteArray.toList_eq, Go.ByteArray.toList_eq]
            exact fun h => hse (ByteArray.ext (Array.ext' h))
          clear hbad hL HSR HRS HT HT0
          go_wp2_with fail
          refine Halt.mk ⟨.inr HK78.out, ?_⟩
          repeat (quiet_step (fail))
          refine wpQuiet_nil ?_
          rintro _ ⟨q2, rfl⟩
          obtain ⟨z0, z1, z2, z3, z4⟩ := blk5 HZ8.out
          have zf := fun i => frozenB HZ8.out i
          go_wp2_with fail
          refine bodyPost_ret (v := .tuple #[.agg #[.int .i64 0, .int .i64 0, .int .i64 0, .int .i64 0, .int .i64 0], .slice none 0 0, .int .i64 (0 : Nat), .int .i64 251]) (results_cell_tmp3 (q1 := 3) (q2 := 4) (q3 := 5) (ty := 27) (ad := ⟨w.heap.size, 0, none⟩) rfl _ rfl (by go_simp)) rfl (read_err HBAD.out ?_)
          exact (HK8.out.drewN _).own5 (Nat.le_refl _) _ _ _ _ _
end Go.Proofs.YtdinkdmkbfbjbaaGreatDoor
