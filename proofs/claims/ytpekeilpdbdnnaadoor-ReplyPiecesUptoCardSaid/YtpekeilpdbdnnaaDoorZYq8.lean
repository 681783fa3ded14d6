/- Merged: The document's reader: rows of replies; The document's reader: replies; Decode; Decoding, by the document. -/
import Derived.Test.YtpekeilpdbdnnaaDoorZYq5
set_option linter.all false
namespace Go.Proofs.YtpekeilpdbdnnaaDoor
open Go.RowKit
attribute [local go_sem] fold_part fold_some fold_some' partAt_zero

/-- A reply by the document, with so many arrays still to come. -/
def RRp (k : Nat) : Prop := ∀ (j g : Nat) (B l : Bs) (w : World), j + k = 8 → StR w g B (.ok l) → B.length ≤ 1000000000 →
  Calls Tryd.prog 24 #[.pointer (some ⟨g, 0, none⟩), .int .i64 j] w (EndR g B (repE k l) (retM w.heap.size) (badM w.heap.size) w)
/-- The world at the head of a row's loop. -/
structure ArqW (w : World) (g b c : Nat) (B : Bs) (ms : List RepM) (r : Except Flt Bs) (vX : Value) (wr : World) : Prop where
  rd : StR wr g B r
  kg : KG g w wr
  z4 : Z4 b wr
  box : wr.heap[c]? = some (.cells #[.int .i64 6, .string ⟨#[]⟩, .int .i64 0, vX] 26 (0, 0))
  own : OwnK 4 26 rCells wr (c + 1) vX ms
  subs : ∀ m ∈ ms, GoodM wr (fun j => c + 1 ≤ j ∧ ¬ (vX.ownBlock = some j)) m
  fits : ∀ m ∈ ms, FitM m
theorem ArqW.kept {w : World} {g b c : Nat} {B : Bs} {ms : List RepM} {r : Except Flt Bs} {vX : Value} {wr w' : World} (h : ArqW w g b c B ms r vX wr) (hk : Kept NoBlock wr w') : ArqW w g b c B ms r vX w' :=
  ⟨h.rd.kept hk, h.kg.trans (hk.kg g), h.z4.keptS hk (fun h => h), hk.heap h.box (fun h => h), h.own.kept hk, fun m hm => (h.subs m hm).keptN hk, h.fits⟩
theorem ArqW.read {w : World} {g b c : Nat} {B : Bs} {ms : List RepM} {r q : Except Flt Bs} {vX : Value} {wr w' : World} (h : ArqW w g b c B ms r vX wr) (hk : KG g wr w') (hr : StR w' g B q) (hgb : g < b) (hbc : b < c) : ArqW w g b c B ms q vX w' :=
  ⟨hr, h.kg.trans hk, h.z4.keptS hk (by omega), hk.heap h.box (by omega), h.own.keptS hk (fun i hi _ e => by omega), fun m hm => (h.subs m hm).kept hk (fun j _ hP e => by omega) (fun _ _ h => h), h.fits⟩
/-- .. behind the row's growing and the box's store. -/
theorem ArqW.grow {w : World} {g b c : Nat} {B : Bs} {ms : List RepM} {m : RepM} {r : Except Flt Bs} {vX vX' : Value} {wr w' : World} (h : ArqW w g b c B ms r vX wr) (hgb : g < b) (hbc : b < c) (hb : w.heap.size = b)
    (hg : wr.grownBy w' vX.ownBlock) (hown : OwnK 4 26 rCells w' (c + 1) vX' (ms ++ [m])) (hpl : ∀ j, vX'.ownBlock = some j → vX.ownBlock = some j ∨ wr.heap.size ≤ j)
    (hm : GoodM wr (fun j => c + 1 ≤ j ∧ ¬ (vX.ownBlock = some j)) m) (hf : FitM m) : ArqW w g b c B (ms ++ [m]) r vX' (w'.setCell ⟨c, 3, none⟩ vX') := by
  have hlt := h.own.lt
  have hk : Kept (fun j => vX.ownBlock = some j) wr w' := Kept.grown (Kept.refl _ wr) hg (fun j e _ => e)
  have hk1 : Kept (fun j => c + 1 ≤ j) wr w' := hk.mono (fun j _ e => (hlt j e).1)
  have hk2 : Kept (fun j => j = c) w' (w'.setCell ⟨c, 3, none⟩ vX') := Kept.setCell (S := fun j => j = c) (p := ⟨c, 3, none⟩) (Kept.refl _ w') (fun _ => rfl) _
  have h5 := hk1.heap h.box (by omega)
  have hsub : ∀ x, GoodM wr (fun j => c + 1 ≤ j ∧ ¬ (vX.ownBlock = some j)) x → GoodM (w'.setCell ⟨c, 3, none⟩ vX') (fun j => c + 1 ≤ j ∧ ¬ (vX'.ownBlock = some j)) x := fun x hx =>
    (hx.kept (Q := fun j => c + 1 ≤ j ∧ ¬ (vX'.ownBlock = some j)) hk (fun j _ hP e => hP.2 e) (fun j hj hP => ⟨hP.1, fun e => by
      rcases hpl j e with h1 | h1
      · exact hP.2 h1
      · omega⟩)).kept hk2 (fun j _ hP e => by omega) (fun _ _ h => h)
  refine ⟨(h.rd.keptS hk1 (fun i hi e => by omega)).keptS hk2 (fun i hi e => by omega), Kept.trans' (Kept.trans' h.kg hk1 (fun i hi e => by omega)) hk2 (fun i hi e => by omega), (h.z4.keptS hk1 (by omega)).keptS hk2 (by omega), ?_, hown.keptS hk2 (fun i hi _ e => by omega), fun x hx => ?_, fun x hx => ?_⟩
  · rw [heap_setCell_same h5 3 vX']
    simp
  · rcases List.mem_append.1 hx with hx | hx
    · exact hsub x (h.subs x hx)
    · obtain rfl := List.mem_singleton.1 hx
      exact hsub _ hm
  · rcases List.mem_append.1 hx with hx | hx
    · exact h.fits x hx
    · obtain rfl := List.mem_singleton.1 hx
      exact hf
theorem ArqW.cell {w : World} {g b c : Nat} {B : Bs} {ms : List RepM} {r : Except Flt Bs} {vX : Value} {wr : World} (h : ArqW w g b c B ms r vX wr) : wr.cell? ⟨c, 3, none⟩ = some vX := cellB h.box rfl
/-- A row is handed back. -/
theorem ArqW.fin {w : World} {g b c : Nat} {B : Bs} {ms : List RepM} {r : Except Flt Bs} {vX : Value} {wr : World} {M : Except Flt (Rep × Bs)} (h : ArqW w g b c B ms r vX wr) (hgb : g < b) (hbc : b < c) (hb : w.heap.size = b) (hms : ms.length ≤ 1000000000) (hr : r = stO M) (hM : ∀ a t, M = .ok (a, t) → Rep.mk 6 [] 0 (ms.map RepM.rep) = a) :
    EndR g B M (retM b) (badM b) w (.returned (.agg #[.int .i64 6, .string ⟨#[]⟩, .int .i64 0, vX])) ((((wr.setCell ⟨b, 0, none⟩ (.int .i64 6)).setCell ⟨b, 1, none⟩ (.string ⟨#[]⟩)).setCell ⟨b, 2, none⟩ (.int .i64 0)).setCell ⟨b, 3, none⟩ vX) := by
  subst hr
  have hlt := h.own.lt
  refine rfin (m := .mk 6 [] 0 vX ms) h.kg h.rd hgb hb h.z4 ?_ ?_ (fun a t ha => by rw [← hM a t ha, RepM.rep, repsM_map])
  · refine .mk _ (OwnK.row rCells_len (by decide) h.own) (fun _ j hj => ?_) (fun x hx => (h.subs x hx).mono (fun j _ hP => (by omega : b + 1 ≤ j)))
    have : vX.ownBlock = some j := by
      rcases h.own.2 with ⟨rfl, _⟩ | ⟨i, cap, cur, rfl, _⟩
      · simp [RepM.v, vblk] at hj
      · simpa [RepM.v, Value.ownBlock, vblk] using hj
    have := (hlt j this).1
    show b + 1 ≤ j
    omega
  · exact .mk _ (by show (-9223372036854775808 : Int) ≤ 0; decide) (by show (0 : Int) ≤ 9223372036854775807; decide) (by simp [RepM.s]) (by show ms.length ≤ _; omega) h.fits

def itM (k n : Nat) (q : Bs) (D : List Rep) (m : Nat) : Except Flt Bs → Prop
  | .ok r => itemsB (repE k) n q = mapI D (itemsB (repE k) m r)
  | .error f => itemsB (repE k) n q = .error f
theorem cntB_le {n : Nat} {l q : Bs} {most : Nat} (h : cntB most l = .ok (some n, q)) : n ≤ most := by
  cases l with
  | nil => cases h
  | cons c r =>
    rw [cntB] at h
    by_cases h45 : c = 45
    · rw [if_pos h45] at h
      cases h49 : mustB 49 r with
      | error e => rw [h49] at h; cases h
      | ok t => rw [h49] at h; cases h
    · rw [if_neg h45] at h
      cases hn : numbB most (c :: r) with
      | error e => rw [hn] at h; cases h
      | ok v => obtain ⟨n', t⟩ := v; rw [hn] at h; cases h; exact numbB_le hn

set_option maxRecDepth 100000 in
set_option maxHeartbeats 6400000 in
theorem rarray (k : Nat) (ih : RRp k) (j g : Nat) (B l : Bs) (w : World) (hj : j + k = 8) (h : StR w g B (.ok l)) (hl : B.length ≤ 1000000000) :
    Calls Tryd.prog 45 #[.pointer (some ⟨g, 0, none⟩), .int .i64 j] w (EndR g B (arrS k l) (retM w.heap.size) (badM w.heap.size) w) := by
  obtain ⟨M, hM⟩ : ∃ M, M = arrS k l := ⟨_, rfl⟩
  rw [← hM]
  unfold arrS andB at hM
  rw [count_cntE] at hM
  have hka := Kept.allocd w (.cells #[.int .i64 0, .string ⟨#[]⟩, .int .i64 0, .slice none 0 0] 26)
  have hza : Z4 w.heap.size (w.alloc (.cells #[.int .i64 0, .string ⟨#[]⟩, .int .i64 0, .slice none 0 0] 26)) := heap_alloc_new w _
  have hgb := h.lt
  have hc := rcount g B l 131072 _ (h.kept hka) hl (by decide) (by decide)
  rw [show (((131072 : Nat) : Int)) = 131072 from rfl] at hc
  have HC := Lib.hid hc
  have HM := Lib.hid hM
  have HBL := Lib.hid hl
  have HZA := Lib.hid hza
  have HKA := Lib.hid hka
  have HJ := Lib.hid hj
  have HIH := Lib.hid ih
  have hj8 : j ≤ 8 := by omega
  clear h hl hka hza hc hM hj ih
  go_enter Tryd.func45, Tryd.ntmps45
  go_wp2_with fail
  generalize w.alloc (.cells #[.int .i64 0, .string ⟨#[]⟩, .int .i64 0, .slice none 0 0] 26) = W1 at *
  generalize hb : w.heap.size = b at *
  have HB := Lib.hid hb
  clear hb
  refine HC.out.mono ?_
  rintro e w2 ⟨hk2, v, rfl, hm2⟩
  have HK2 := Lib.hid ((HKA.out.kg g).trans hk2)
  have HZ2 := Lib.hid (HZA.out.keptS hk2 (by omega))
  clear hk2 HC HKA HZA
  have hv : ∃ (x : Int) (x1 : Except Flt Bs), v = .int .i64 x ∧ StR w2 g B x1 ∧ -9223372036854775808 ≤ x ∧ x ≤ 9223372036854775807 ∧
      ((∃ f, stepE x1 endB = .error f ∧ M = .error f) ∨ (∃ r, stepE x1 endB = .ok r ∧ x = -1 ∧ M = .ok (.mk 7 [] 0 [], r)) ∨
       ∃ r n, stepE x1 endB = .ok r ∧ x = (n : Nat) ∧ n ≤ 131072 ∧ M = match itemsB (repE k) n r with | .error e => .error e | .ok (l, t) => .ok (.mk 6 [] 0 l, t)) := by
    have hbe := HM.out
    unfold cntE at hbe
    cases hcb : cntB 131072 l with
    | error f =>
      rw [hcb] at hm2 hbe
      obtain ⟨⟨x, rfl, hx⟩, hs⟩ := hm2
      exact ⟨x, _, rfl, hs, hx.1, hx.2, .inl ⟨f, rfl, hbe⟩⟩
    | ok p =>
      obtain ⟨o, q⟩ := p
      rw [hcb] at hm2 hbe
      obtain ⟨rfl, hs⟩ := hm2
      simp only at hbe
      cases he : endB q with
      | error f =>
        rw [he] at hbe
        simp only at hbe
        cases o with
        | none => exact ⟨-1, _, rfl, hs, by decide, by decide, .inl ⟨f, he, hbe⟩⟩
        | some n =>
          have hn := cntB_le hcb
          exact ⟨n, _, rfl, hs, by omega, by omega, .inl ⟨f, he, hbe⟩⟩
      | ok r =>
        rw [he] at hbe
        simp only at hbe
        cases o with
        | none => exact ⟨-1, _, rfl, hs, by decide, by decide, .inr (.inl ⟨r, he, rfl, hbe⟩)⟩
        | some n =>
          have hn := cntB_le hcb
          refine ⟨n, _, rfl, hs, by omega, by omega, .inr (.inr ⟨r, n, he, rfl, hn, ?_⟩)⟩
          rw [hbe]
          simp only
          cases itemsB (repE k) n r with
          | error e => rfl
          | ok v => obtain ⟨a, t⟩ := v; rfl
  obtain ⟨x, x1, rfl, hs2, hx1, hx2, hcase⟩ := hv
  have HE := Lib.hid (rend g B x1 w2 hs2 HBL.out)
  have HCASE := Lib.hid hcase
  clear hm2 hs2 hcase HM
  go_wp2_with fail
  refine HE.out.mono ?_
  rintro e w3 ⟨⟨u, rfl⟩, hk3, hs3⟩
  have HK3 := Lib.hid (HK2.out.trans hk3)
  have HZ3 := Lib.hid (HZ2.out.keptS hk3 (by omega))
  clear hk3 HK2 HZ2 HE
  rcases HCASE.out with ⟨f, e1, hMe⟩ | ⟨r, e1, rfl, hMe⟩ | ⟨q, n, e1, rfl, hn, hMe⟩
  · rw [e1] at hs3
    subst hMe
    have HS3 := Lib.hid hs3
    obtain ⟨e9, d2, hne9⟩ := hs3.bad
    have hne9b : (e9 != 0) = true := by simpa using hne9
    obtain ⟨e0, e1', e2, e3⟩ := blk4 HZ3.out
    have hz4 := fun i => frozenB HZ3.out i
    have HSET := Lib.hid (set4 HZ3.out (.int .i64 7) (.string ⟨#[]⟩) (.int .i64 0) (.slice none 0 0))
    clear hs3 e1 HCASE
    go_wp2_with fail
    refine bodyPost_ret (v := .agg #[.int .i64 7, .string ⟨#[]⟩, .int .i64 0, .slice none 0 0]) ((results_cell rfl _ _ _).trans ?_) rfl ?_
    · obtain ⟨f0, f1, f2, f3⟩ := blk4 HSET.out.1
      generalize ((((w3.setCell ⟨b, 0, none⟩ (.int .i64 7)).setCell ⟨b, 1, none⟩ (.string ⟨#[]⟩)).setCell ⟨b, 2, none⟩ (.int .i64 0)).setCell ⟨b, 3, none⟩ (.slice none 0 0)) = W6 at *
      go_simp
    · exact rleaf 7 [] 0 HK3.out HS3.out hgb HB.out HZ3.out (by decide) (by decide) (by simp) (fun a r h => by cases h)
  · rw [e1] at hs3
    subst hMe
    have HS3 := Lib.hid hs3
    have d2 := hs3.okE
    obtain ⟨e0, e1', e2, e3⟩ := blk4 HZ3.out
    have hz4 := fun i => frozenB HZ3.out i
    have HSET := Lib.hid (set4 HZ3.out (.int .i64 7) (.string ⟨#[]⟩) (.int .i64 0) (.slice none 0 0))
    clear hs3 e1 HCASE
    go_wp2_with fail
    refine bodyPost_ret (v := .agg #[.int .i64 7, .string ⟨#[]⟩, .int .i64 0, .slice none 0 0]) ((results_cell rfl _ _ _).trans ?_) rfl ?_
    · obtain ⟨f0, f1, f2, f3⟩ := blk4 HSET.out.1
      generalize ((((w3.setCell ⟨b, 0, none⟩ (.int .i64 7)).setCell ⟨b, 1, none⟩ (.string ⟨#[]⟩)).setCell ⟨b, 2, none⟩ (.int .i64 0)).setCell ⟨b, 3, none⟩ (.slice none 0 0)) = W6 at *
      go_simp
    · exact rleaf 7 [] 0 HK3.out HS3.out hgb HB.out HZ3.out (by decide) (by decide) (by simp) (fun a r h => by cases h; rfl)
  · rw [e1] at hs3
    have d2 := hs3.okE
    have hbc : b < w3.heap.size := lt_of_heap HZ3.out
    have hkb := Kept.allocd w3 (.cells #[.int .i64 6, .string ⟨#[]⟩, .int .i64 0, .slice none 0 0] 26)
    have hgc := heap_alloc_new w3 (.cells #[.int .i64 6, .string ⟨#[]⟩, .int .i64 0, .slice none 0 0] 26)
    have HRW := Lib.hid (show ArqW w g b w3.heap.size B [] (.ok q) (.slice none 0 0) (w3.alloc (.cells #[.int .i64 6, .string ⟨#[]⟩, .int .i64 0, .slice none 0 0] 26)) from
      ⟨hs3.kept hkb, HK3.out.trans (hkb.kg g), HZ3.out.keptS hkb (fun h => h), hgc, OwnK.nil _ _, fun m hm => (by cases hm), fun m hm => (by cases hm)⟩)
    have HMM := Lib.hid hMe
    clear hs3 e1 hMe hkb hgc HK3 HZ3 HCASE hx1 hx2
    go_wp2_with fail
    clear d2
    generalize w3.alloc (.cells #[.int .i64 6, .string ⟨#[]⟩, .int .i64 0, .slice none 0 0] 26) = W2 at *
    generalize w3.heap.size = c at *
    go_loopw [7] (fun v7 wr => ∃ (i : Nat) (ms : List RepM) (y : Except Flt Bs) (vX : Value), v7 = .int .i64 i ∧ i ≤ n ∧ ms.length = i ∧ ArqW w g b c B ms y vX wr ∧ itM k n q (ms.map RepM.rep) (n - i) y) (fun v7 _ => n - (intOf v7).toNat)
    case atStart => exact ⟨0, [], .ok q, _, rfl, Nat.zero_le _, rfl, HRW.out, by show itemsB (repE k) n q = mapI [] (itemsB (repE k) (n - 0) q); rw [mapI_nil]; rfl⟩
    case round =>
      obtain ⟨i, ms, y, vX, rfl, hi, hms, hrw, hmod⟩ := hrel
      have HW := Lib.hid hrw
      have HMO := Lib.hid hmod
      have HMS := Lib.hid hms
      clear hrw hmod hms
      by_cases hgo : i < n ∧ ∃ r, y = .ok r
      · obtain ⟨hlt, r, rfl⟩ := hgo
        have d2 := HW.out.rd.okE
        go_wp2_with fail
        clear d2
        have hcell := HW.out.cell
        refine wp_planC (fun W => W.cell? ⟨c, 3, none⟩ = some vX) 8 [.flt 0, .flt 1, .seg [2, 3] 4, .seg [] 5, .seg [] 6, .seg [7] 8] [] (by kernel_rfl) (by kernel_rfl) (fun _ _ _ dst _ h => by cases dst <;> exact h) (fun _ _ h => h) hcell (fun n0 => ?_)
        repeat (refine planC_flt rfl rfl ?_; apply Exists.intro; refine ⟨fun w' hw' => ?_, ?_⟩; (go_simp; first | rfl | exact ⟨rfl, rfl⟩); simp only [Act.put, List.setIfInBounds_toArray, List.set_cons_succ, List.set_cons_zero])
        simp only [wpPlanC, pick, List.filterMap_cons, List.filterMap_nil, List.getElem?_cons_succ, List.getElem?_cons_zero]
        repeat (quiet_step (fail))
        refine wpQuiet_nil ?_
        rintro _ ⟨n1, rfl⟩
        clear hcell
        have HWN := Lib.hid (HW.out.kept ((Kept.refl NoBlock wr).drewN (n0 + n1)))
        have HCALL := Lib.hid (HIH.out j g B r (wr.drewN (n0 + n1)) HJ.out HWN.out.rd HBL.out)
        go_wp2_with fail
        generalize wr.drewN (n0 + n1) = wn at *
        refine HCALL.out.mono ?_
        rintro e w4 ⟨hk, v, rfl, hm4⟩
        have hres : ∃ (m : RepM) (y2 : Except Flt Bs), v = repA m ∧ GoodM w4 (fun j => wn.heap.size ≤ j) m ∧ FitM m ∧ StR w4 g B y2 ∧ itM k n q ((ms ++ [m]).map RepM.rep) (n - (i + 1)) y2 := by
          have hmo := HMO.out
          unfold itM at hmo
          cases htk : repE k r with
          | error f =>
            rw [htk] at hm4
            obtain ⟨⟨m, e9, hg9, hf9⟩, hs9⟩ := hm4
            refine ⟨m, _, e9, hg9, hf9, hs9, ?_⟩
            show itemsB (repE k) n q = .error f
            rw [hmo, show n - i = (n - i - 1) + 1 by omega]
            exact items_no _ htk
          | ok p =>
            obtain ⟨x, r2⟩ := p
            rw [htk] at hm4
            obtain ⟨⟨m, e9, he9, hg9, hf9⟩, hs9⟩ := hm4
            refine ⟨m, _, e9, hg9, hf9, hs9, ?_⟩
            show itemsB (repE k) n q = mapI ((ms ++ [m]).map RepM.rep) (itemsB (repE k) (n - (i + 1)) r2)
            rw [hmo, show n - i = (n - (i + 1)) + 1 by omega, items_next _ htk, List.map_append, ← he9]
            rfl
        obtain ⟨m, y2, rfl, hgm, hfm, hr3, hmo3⟩ := hres
        have hown3 := HWN.out.own.lt
        have HW3 := Lib.hid (HWN.out.read hk hr3 hgb hbc)
        have HMO3 := Lib.hid hmo3
        have HGM := Lib.hid (hgm.mono (Q := fun j => c + 1 ≤ j ∧ ¬ (vX.ownBlock = some j)) (fun j _ hP => ⟨by have := lt_of_heap HWN.out.box; omega, fun e => by have := (hown3 j e).2; omega⟩))
        have HFM := Lib.hid hfm
        obtain ⟨apm, capm, hvm, _⟩ := hgm.row.parts
        clear hk hgm hfm hr3 hown3 hmo3 HCALL HWN HMO HW hm4
        unfold repA
        rw [hvm]
        have HVM := Lib.hid hvm
        clear hvm
        unfold strV
        go_wp2_with fail
        refine Halt.mk ⟨.inr HW3.out.cell, ?_⟩
        have HA := Lib.hid (Kept.allocd w4 (.cells #[.int .i64 m.k, .string ⟨m.s.toArray⟩, .int .i64 m.n, .slice apm m.l.length capm] 26))
        have HGA := Lib.hid (heap_alloc_new w4 (.cells #[.int .i64 m.k, .string ⟨m.s.toArray⟩, .int .i64 m.n, .slice apm m.l.length capm] 26))
        have HWA := Lib.hid (HW3.out.kept HA.out)
        have HGM2 := Lib.hid (HGM.out.keptN HA.out)
        go_wp2_with fail
        generalize w4.alloc (.cells #[.int .i64 m.k, .string ⟨m.s.toArray⟩, .int .i64 m.n, .slice apm m.l.length capm] 26) = wA at *
        generalize w4.heap.size = gA at *
        refine Halt.mk ⟨.inr HWA.out.cell, ?_⟩
        refine wpList_appP rfl _ _ 24 (by rfl) Tryd.underlying24 _ 56 repInfo rfl (by decide) (by decide) rCells_len (c + 1) vX ms (by rfl) HWA.out.own gA m #[.int .i64 m.k, .string ⟨m.s.toArray⟩, .int .i64 m.n, .slice apm m.l.length capm] (0, 0) (by rfl) HGA.out (by unfold rCells strV; rw [HVM.out]) (rCells_one m (by rw [HVM.out]; rfl)) (by have := HMS.out; omega) (by have := lt_of_heap HWA.out.box; omega) ?_
        intro v' w' hown hgr hpl
        obtain ⟨ap', cap', rfl⟩ := OwnK.form rCells_len (by decide) hown
        rw [List.length_append, List.length_singleton] at hown hpl ⊢
        have HW9 := Lib.hid (ArqW.grow HWA.out hgb hbc HB.out hgr hown hpl HGM2.out HFM.out)
        have hk9 := grownS (B := c + 1) hgr (fun j e => (HWA.out.own.lt j e).1)
        have h59 := hk9.heap HWA.out.box (by omega)
        have hc9 : w'.cell? ⟨c, 3, none⟩ = some vX := cellB h59 rfl
        have hz9 := fun i => frozenB h59 i
        clear hown hgr hpl hk9 h59
        go_wp2_with fail
        refine Halt.mk ⟨.inr hc9, ?_⟩
        repeat (quiet_step (fail))
        refine wpQuiet_nil ?_
        rintro _ ⟨n2, rfl⟩
        go_wp2_with fail
        refine Halt.mk ⟨.inl trivial, ?_⟩
        have HW10 := Lib.hid (HW9.out.kept ((Kept.refl NoBlock _).drewN n2))
        clear hc9 hz9
        go_wp2_with fail
        go_roundw
        case rel => exact ⟨i + 1, ms ++ [m], y2, _, by go_num, by omega, by rw [List.length_append, List.length_singleton, HMS.out], HW10.out, HMO3.out⟩
        case measure => simp [intOf]; omega
      · have hfin : y = stO M ∧ ∀ a t, M = .ok (a, t) → Rep.mk 6 [] 0 (ms.map RepM.rep) = a := by
          have hmo := HMO.out
          unfold itM at hmo
          have hm := HMM.out
          cases y with
          | error f =>
            simp only at hmo
            rw [hmo] at hm
            simp only at hm
            subst hm
            exact ⟨rfl, fun a t ha => by cases ha⟩
          | ok r =>
            have hin : i = n := Classical.byContradiction fun hne => hgo ⟨by omega, r, rfl⟩
            simp only at hmo
            rw [hin, Nat.sub_self, itemsB, mapI] at hmo
            rw [hmo] at hm
            simp only [List.append_nil] at hm
            subst hm
            exact ⟨rfl, fun a t ha => by cases ha; rfl⟩
        have hcond : (∃ e9 : Int, wr.cell? ⟨g, 2, none⟩ = some (.int .i64 e9) ∧ ((e9 == 0) = false ∨ ¬ i < n)) := by
          cases y with
          | error f =>
            obtain ⟨e9, d2, hne9⟩ := HW.out.rd.bad
            exact ⟨e9, d2, .inl (by simpa using hne9)⟩
          | ok r => exact ⟨0, HW.out.rd.okE, .inr fun hlt => hgo ⟨hlt, r, rfl⟩⟩
        obtain ⟨e9, d2, hc9⟩ := hcond
        obtain ⟨apX, capX, rfl⟩ := OwnK.form rCells_len (by decide) HW.out.own
        have HFIN := Lib.hid hfin
        obtain ⟨d0, d1, d2', d3⟩ := blk4 HW.out.box
        obtain ⟨e0, e1, e2, e3⟩ := blk4 HW.out.z4
        have hz4 := fun i => frozenB HW.out.z4 i
        have HS4 := Lib.hid (set4 HW.out.z4 (.int .i64 6) (.string ⟨#[]⟩) (.int .i64 0) (.slice apX ms.length capX))
        clear hfin hgo
        have hdone : ∀ (e : Ending), e = .returned (.agg #[.int .i64 6, .string ⟨#[]⟩, .int .i64 0, .slice apX ms.length capX]) → EndR g B M (retM b) (badM b) w e ((((wr.setCell ⟨b, 0, none⟩ (.int .i64 6)).setCell ⟨b, 1, none⟩ (.string ⟨#[]⟩)).setCell ⟨b, 2, none⟩ (.int .i64 0)).setCell ⟨b, 3, none⟩ (.slice apX ms.length capX)) := by
          rintro e rfl
          exact HW.out.fin hgb hbc HB.out (by have := HMS.out; omega) HFIN.out.1 HFIN.out.2
        have HDONE := Lib.hid hdone
        clear hdone
        by_cases hlt : i < n
        · have hne : (e9 == 0) = false := hc9.resolve_right (fun h => h hlt)
          have hne2 : ¬ e9 = 0 := by simpa using hne
          clear hc9
          go_wp2_with fail
          refine bodyPost_ret (v := .agg #[.int .i64 6, .string ⟨#[]⟩, .int .i64 0, .slice apX ms.length capX]) ((results_cell rfl _ _ _).trans ?_) rfl ?_
          · obtain ⟨f0, f1, f2, f3⟩ := blk4 HS4.out.1
            generalize ((((wr.setCell ⟨b, 0, none⟩ (.int .i64 6)).setCell ⟨b, 1, none⟩ (.string ⟨#[]⟩)).setCell ⟨b, 2, none⟩ (.int .i64 0)).setCell ⟨b, 3, none⟩ (.slice apX ms.length capX)) = W6 at *
            go_simp
          · exact HDONE.out _ rfl
        · clear hc9
          go_wp2_with fail
          refine bodyPost_ret (v := .agg #[.int .i64 6, .string ⟨#[]⟩, .int .i64 0, .slice apX ms.length capX]) ((results_cell rfl _ _ _).trans ?_) rfl ?_
          · obtain ⟨f0, f1, f2, f3⟩ := blk4 HS4.out.1
            generalize ((((wr.setCell ⟨b, 0, none⟩ (.int .i64 6)).setCell ⟨b, 1, none⟩ (.string ⟨#[]⟩)).setCell ⟨b, 2, none⟩ (.int .i64 0)).setCell ⟨b, 3, none⟩ (.slice apX ms.length capX)) = W6 at *
            go_simp
          · exact HDONE.out _ rfl
end Go.Proofs.YtpekeilpdbdnnaaDoor
namespace Go.Proofs.YtpekeilpdbdnnaaDoor
open Go.RowKit
attribute [local go_sem] fold_part fold_some fold_some' partAt_zero

/-- What a call on the reader hands back, good or bad. -/
theorem EndR.out {g b : Nat} {B : Bs} {M : Except Flt (Rep × Bs)} {w w' : World} {e : Ending} (h : EndR g B M (retM b) (badM b) w e w') :
    KG g w w' ∧ ∃ m, e = .returned (repA m) ∧ GoodM w' (fun j => b ≤ j) m ∧ FitM m ∧ StR w' g B (stO M) ∧ ∀ a r, M = .ok (a, r) → m.rep = a := by
  obtain ⟨hk, v, rfl, hm⟩ := h
  refine ⟨hk, ?_⟩
  cases M with
  | error f =>
    obtain ⟨⟨m, rfl, hg, hf⟩, hs⟩ := hm
    exact ⟨m, rfl, hg, hf, hs, fun a r h => by cases h⟩
  | ok p =>
    obtain ⟨a, r⟩ := p
    obtain ⟨⟨m, rfl, rfl, hg, hf⟩, hs⟩ := hm
    exact ⟨m, rfl, hg, hf, hs, fun a' r' h => by cases h; rfl⟩

set_option maxRecDepth 100000 in
set_option maxHeartbeats 6400000 in
theorem rreplyX (arr : Bs → Except Flt (Rep × Bs)) (j g : Nat) (B l : Bs) (w : World) (hj : j ≤ 8) (h : StR w g B (.ok l)) (hl : B.length ≤ 1000000000)
    (hflat : j = 8 → ∀ (l' : Bs) (w' : World), StR w' g B (.ok (42 :: l')) → Calls Tryd.prog 40 #[.pointer (some ⟨g, 0, none⟩)] w' (EndR g B (arr l') (retM w'.heap.size) (badM w'.heap.size) w'))
    (harr : j < 8 → ∀ (l' : Bs) (w' : World), StR w' g B (.ok l') → Calls Tryd.prog 45 #[.pointer (some ⟨g, 0, none⟩), .int .i64 (j + 1 : Nat)] w' (EndR g B (arr l') (retM w'.heap.size) (badM w'.heap.size) w')) :
    Calls Tryd.prog 24 #[.pointer (some ⟨g, 0, none⟩), .int .i64 j] w (EndR g B (repX arr l) (retM w.heap.size) (badM w.heap.size) w) := by
  obtain ⟨M, hM⟩ : ∃ M, M = repX arr l := ⟨_, rfl⟩
  rw [← hM]
  have HM := Lib.hid hM
  have HBL := Lib.hid hl
  have HARR := Lib.hid harr
  have HFLAT := Lib.hid hflat
  have hka := Kept.allocd w (.cells #[.int .i64 0, .string ⟨#[]⟩, .int .i64 0, .slice none 0 0] 26)
  have hza : Z4 w.heap.size (w.alloc (.cells #[.int .i64 0, .string ⟨#[]⟩, .int .i64 0, .slice none 0 0] 26)) := heap_alloc_new w _
  have hgb := h.lt
  have HNX := Lib.hid (rbyte g B (.ok l) _ (h.kept hka) hl)
  have HKA := Lib.hid hka
  have HZA := Lib.hid hza
  clear hM h hl hka hza harr hflat
  go_enter Tryd.func24, Tryd.ntmps24
  go_wp2_with fail
  generalize w.alloc (.cells #[.int .i64 0, .string ⟨#[]⟩, .int .i64 0, .slice none 0 0] 26) = W1 at *
  generalize hb : w.heap.size = b at *
  have HB := Lib.hid hb
  clear hb
  refine HNX.out.mono ?_
  rintro e w2 ⟨rfl, hk2, hs2⟩
  have HK2 := Lib.hid ((HKA.out.kg g).trans hk2)
  have HZ2 := Lib.hid (HZA.out.keptS hk2 (by omega))
  have HS2 := Lib.hid hs2
  clear hk2 hs2 HNX HKA HZA
  cases l with
  | nil =>
    have hMe : M = .error (0, true) := by rw [HM.out]; rfl
    subst hMe
    have HS3 := Lib.hid (show StR w2 g B (stO (Except.error (0, true) : Except Flt (Rep × Bs))) from HS2.out)
    obtain ⟨e9, d2, hne9⟩ := StR.bad (show StR w2 g B (.error (0, true)) from HS2.out)
    have hne9b : (e9 != 0) = true := by simpa using hne9
    rw [show byteC (.ok []) = 0 from rfl, show (((0 : UInt8).toNat : Int)) = 0 from rfl]
    obtain ⟨y0, y1, y2, y3⟩ := blk4 HZ2.out
    have hz4 := fun i => frozenB HZ2.out i
    have HSET := Lib.hid (set4 HZ2.out (.int .i64 0) (.string ⟨#[]⟩) (.int .i64 0) (.slice none 0 0))
    go_wp2_with fail
    refine bodyPost_ret (v := .agg #[.int .i64 0, .string ⟨#[]⟩, .int .i64 0, .slice none 0 0]) ((results_cell rfl _ _ _).trans ?_) rfl ?_
    · obtain ⟨f0, f1, f2, f3⟩ := blk4 HSET.out.1
      generalize ((((w2.setCell ⟨b, 0, none⟩ (.int .i64 0)).setCell ⟨b, 1, none⟩ (.string ⟨#[]⟩)).setCell ⟨b, 2, none⟩ (.int .i64 0)).setCell ⟨b, 3, none⟩ (.slice none 0 0)) = W6 at *
      go_simp
    · exact rleaf 0 [] 0 HK2.out HS3.out hgb HB.out HZ2.out (by decide) (by decide) (by simp) (fun a r h => by cases h)
  | cons c t =>
    rw [show byteC (.ok (c :: t)) = c from rfl]
    have hm := HM.out
    rw [repX_cons] at hm
    have hst2 : StR w2 g B (.ok (c :: t)) := HS2.out
    obtain ⟨i, c1, f1, c2, hi9, hs3, hk3⟩ := hst2.inc HBL.out
    have HS3 := Lib.hid hs3
    have HK3 := Lib.hid (HK2.out.trans hk3)
    have HZ3 := Lib.hid (HZ2.out.keptS hk3 (by omega))
    clear hst2 hs3 hk3 HM
    by_cases h43 : c = 43
    · subst h43
      rw [show (((43 : UInt8).toNat : Int)) = 43 from rfl]
      rw [if_pos rfl] at hm
      have HL := Lib.hid (rtext g B t _ HS3.out HBL.out)
      have HMM := Lib.hid hm
      clear hm
      go_wp2_with fail
      refine HL.out.mono ?_
      rintro e w4 ⟨hk4, v, rfl, hm4⟩
      have HK4 := Lib.hid (HK3.out.trans hk4)
      have HZ4 := Lib.hid (HZ3.out.keptS hk4 (by omega))
      have hv : ∃ s : Bs, v = strV s ∧ s.length ≤ 1000000000 ∧ StR w4 g B (stO M) ∧ ∀ a r, M = .ok (a, r) → Rep.mk 1 s 0 [] = a := by
        have hm := HMM.out
        unfold andB at hm
        cases hle : lineE t with
        | error f =>
          rw [hle] at hm4 hm
          obtain ⟨⟨s, rfl, hs⟩, hst⟩ := hm4
          subst hm
          exact ⟨s, rfl, hs, hst, fun a r h => by cases h⟩
        | ok p =>
          obtain ⟨s, q⟩ := p
          rw [hle] at hm4 hm
          obtain ⟨rfl, hst⟩ := hm4
          subst hm
          have hsl := lineE_len hle
          obtain ⟨p9, hp9⟩ := HS3.out.toP
          have hp8 := hp9.le
          have := HBL.out
          exact ⟨s, rfl, by omega, hst, fun a r h => by cases h; rfl⟩
      obtain ⟨s, rfl, hs9, hst, hok⟩ := hv
      have HST := Lib.hid hst
      have HOK := Lib.hid hok
      clear hk4 hm4 hst hok HMM c1 f1 c2
      unfold strV
      obtain ⟨y0, y1, y2, y3⟩ := blk4 HZ4.out
      have hz4 := fun i => frozenB HZ4.out i
      have HSET := Lib.hid (set4 HZ4.out (.int .i64 1) (.string ⟨s.toArray⟩) (.int .i64 0) (.slice none 0 0))
      go_wp2_with fail
      refine bodyPost_ret (v := .agg #[.int .i64 1, .string ⟨s.toArray⟩, .int .i64 0, .slice none 0 0]) ((results_cell rfl _ _ _).trans ?_) rfl ?_
      · obtain ⟨f0, f1, f2, f3⟩ := blk4 HSET.out.1
        generalize ((((w4.setCell ⟨b, 0, none⟩ (.int .i64 1)).setCell ⟨b, 1, none⟩ (.string ⟨s.toArray⟩)).setCell ⟨b, 2, none⟩ (.int .i64 0)).setCell ⟨b, 3, none⟩ (.slice none 0 0)) = W6 at *
        go_simp
      · exact rleaf 1 s 0 HK4.out HST.out hgb HB.out HZ4.out (by decide) (by decide) hs9 HOK.out
    by_cases h45 : c = 45
    · subst h45
      rw [show (((45 : UInt8).toNat : Int)) = 45 from rfl]
      rw [if_neg (by decide), if_pos rfl] at hm
      have HL := Lib.hid (rtext g B t _ HS3.out HBL.out)
      have HMM := Lib.hid hm
      clear hm
      go_wp2_with fail
      refine HL.out.mono ?_
      rintro e w4 ⟨hk4, v, rfl, hm4⟩
      have HK4 := Lib.hid (HK3.out.trans hk4)
      have HZ4 := Lib.hid (HZ3.out.keptS hk4 (by omega))
      have hv : ∃ s : Bs, v = strV s ∧ s.length ≤ 1000000000 ∧ StR w4 g B (stO M) ∧ ∀ a r, M = .ok (a, r) → Rep.mk 2 s 0 [] = a := by
        have hm := HMM.out
        unfold andB at hm
        cases hle : lineE t with
        | error f =>
          rw [hle] at hm4 hm
          obtain ⟨⟨s, rfl, hs⟩, hst⟩ := hm4
          subst hm
          exact ⟨s, rfl, hs, hst, fun a r h => by cases h⟩
        | ok p =>
          obtain ⟨s, q⟩ := p
          rw [hle] at hm4 hm
          obtain ⟨rfl, hst⟩ := hm4
          subst hm
          have hsl := lineE_len hle
          obtain ⟨p9, hp9⟩ := HS3.out.toP
          have hp8 := hp9.le
          have := HBL.out
          exact ⟨s, rfl, by omega, hst, fun a r h => by cases h; rfl⟩
      obtain ⟨s, rfl, hs9, hst, hok⟩ := hv
      have HST := Lib.hid hst
      have HOK := Lib.hid hok
      clear hk4 hm4 hst hok HMM c1 f1 c2
      unfold strV
      obtain ⟨y0, y1, y2, y3⟩ := blk4 HZ4.out
      have hz4 := fun i => frozenB HZ4.out i
      have HSET := Lib.hid (set4 HZ4.out (.int .i64 2) (.string ⟨s.toArray⟩) (.int .i64 0) (.slice none 0 0))
      go_wp2_with fail
      refine bodyPost_ret (v := .agg #[.int .i64 2, .string ⟨s.toArray⟩, .int .i64 0, .slice none 0 0]) ((results_cell rfl _ _ _).trans ?_) rfl ?_
      · obtain ⟨f0, f1, f2, f3⟩ := blk4 HSET.out.1
        generalize ((((w4.setCell ⟨b, 0, none⟩ (.int .i64 2)).setCell ⟨b, 1, none⟩ (.string ⟨s.toArray⟩)).setCell ⟨b, 2, none⟩ (.int .i64 0)).setCell ⟨b, 3, none⟩ (.slice none 0 0)) = W6 at *
        go_simp
      · exact rleaf 2 s 0 HK4.out HST.out hgb HB.out HZ4.out (by decide) (by decide) hs9 HOK.out
    by_cases h58 : c = 58
    · subst h58
      rw [show (((58 : UInt8).toNat : Int)) = 58 from rfl]
      rw [if_neg (by decide), if_neg (by decide), if_pos rfl] at hm
      have HL := Lib.hid (rinteger g B t _ HS3.out HBL.out)
      have HMM := Lib.hid hm
      clear hm
      go_wp2_with fail
      refine HL.out.mono ?_
      rintro e w4 ⟨hk4, v, rfl, hm4⟩
      have HK4 := Lib.hid (HK3.out.trans hk4)
      have HZ4 := Lib.hid (HZ3.out.keptS hk4 (by omega))
      have hv : ∃ (x : Int) (x1 : Except Flt Bs), v = .int .i64 x ∧ -9223372036854775808 ≤ x ∧ x ≤ 9223372036854775807 ∧ StR w4 g B x1 ∧ stepE x1 endB = stO M ∧ ∀ a r, M = .ok (a, r) → Rep.mk 3 [] x [] = a := by
        have hm := HMM.out
        unfold andB at hm
        cases hle : integerB t with
        | error f =>
          rw [hle] at hm4 hm
          obtain ⟨⟨x, rfl, hx⟩, hst⟩ := hm4
          subst hm
          exact ⟨x, _, rfl, hx.1, hx.2, hst, rfl, fun a r h => by cases h⟩
        | ok p =>
          obtain ⟨n, q⟩ := p
          rw [hle] at hm4 hm
          obtain ⟨rfl, hst⟩ := hm4
          have hin := integerB_in hle
          simp only at hm
          refine ⟨n, _, rfl, hin.1, hin.2, hst, ?_, ?_⟩
          · rw [hm]
            unfold unitB stepE
            simp only
            cases endB q <;> rfl
          · intro a r ha
            rw [hm] at ha
            unfold unitB at ha
            cases he : endB q with
            | error e => rw [he] at ha; cases ha
            | ok z => rw [he] at ha; cases ha; rfl
      obtain ⟨x, x1, rfl, hx1, hx2, hst, hend, hok⟩ := hv
      have HE := Lib.hid (rend g B x1 w4 hst HBL.out)
      have HEND := Lib.hid hend
      have HOK := Lib.hid hok
      clear hk4 hm4 hst hok hend HMM c1 f1 c2
      go_wp2_with fail
      refine HE.out.mono ?_
      rintro e w5 ⟨⟨u, rfl⟩, hk5, hs5⟩
      rw [HEND.out] at hs5
      have HK5 := Lib.hid (HK4.out.trans hk5)
      have HZ5 := Lib.hid (HZ4.out.keptS hk5 (by omega))
      have HS5 := Lib.hid hs5
      clear hk5 hs5
      obtain ⟨y0, y1, y2, y3⟩ := blk4 HZ5.out
      have hz4 := fun i => frozenB HZ5.out i
      have HSET := Lib.hid (set4 HZ5.out (.int .i64 3) (.string ⟨#[]⟩) (.int .i64 x) (.slice none 0 0))
      go_wp2_with fail
      refine bodyPost_ret (v := .agg #[.int .i64 3, .string ⟨#[]⟩, .int .i64 x, .slice none 0 0]) ((results_cell rfl _ _ _).trans ?_) rfl ?_
      · obtain ⟨f0, f1, f2, f3⟩ := blk4 HSET.out.1
        generalize ((((w5.setCell ⟨b, 0, none⟩ (.int .i64 3)).setCell ⟨b, 1, none⟩ (.string ⟨#[]⟩)).setCell ⟨b, 2, none⟩ (.int .i64 x)).setCell ⟨b, 3, none⟩ (.slice none 0 0)) = W6 at *
        go_simp
      · exact rleaf 3 [] x HK5.out HS5.out hgb HB.out HZ5.out hx1 hx2 (by simp) HOK.out
    by_cases h36 : c = 36
    · subst h36
      rw [show (((36 : UInt8).toNat : Int)) = 36 from rfl]
      rw [if_neg (by decide), if_neg (by decide), if_neg (by decide), if_pos rfl] at hm
      have HL := Lib.hid (rbulk g B t _ HS3.out HBL.out)
      have HMM := Lib.hid hm
      clear hm
      have hsz3 := lt_of_heap HZ3.out
      have HSZ := Lib.hid hsz3
      clear hsz3
      go_wp2_with fail
      refine HL.out.mono ?_
      intro e w4 h4
      obtain ⟨hk4, m, rfl, hgm, hfm, hst, hok⟩ := h4.out
      have HK4 := Lib.hid (HK3.out.trans hk4)
      have HZ4 := Lib.hid (HZ3.out.keptS hk4 (by omega))
      have HST := Lib.hid (show StR w4 g B (stO M) from by rw [HMM.out]; exact hst)
      have HOK := Lib.hid (show ∀ a r, M = .ok (a, r) → m.rep = a from by rw [HMM.out]; exact hok)
      have HGM := Lib.hid (hgm.mono (Q := fun j => b + 1 ≤ j) (fun j _ hP => by have := HSZ.out; omega))
      have HFM := Lib.hid hfm
      obtain ⟨apm, capm, hvm, _⟩ := hgm.row.parts
      have HVM := Lib.hid hvm
      obtain ⟨y0, y1, y2, y3⟩ := blk4 HZ4.out
      have hz4 := fun i => frozenB HZ4.out i
      have HS4 := Lib.hid (set4 HZ4.out (.int .i64 m.k) (.string ⟨m.s.toArray⟩) (.int .i64 m.n) (.slice apm m.l.length capm))
      unfold repA
      rw [hvm]
      unfold strV
      clear h4 hk4 hgm hfm hvm hst hok
      go_wp2_with fail
      refine bodyPost_ret (v := .agg #[.int .i64 m.k, .string ⟨m.s.toArray⟩, .int .i64 m.n, .slice apm m.l.length capm]) ((results_cell rfl _ _ _).trans ?_) rfl ?_
      · obtain ⟨f0, f1, f2, f3⟩ := blk4 HS4.out.1
        generalize ((((w4.setCell ⟨b, 0, none⟩ (.int .i64 m.k)).setCell ⟨b, 1, none⟩ (.string ⟨m.s.toArray⟩)).setCell ⟨b, 2, none⟩ (.int .i64 m.n)).setCell ⟨b, 3, none⟩ (.slice apm m.l.length capm)) = W6 at *
        go_simp
      · have := rfin HK4.out HST.out hgb HB.out HZ4.out HGM.out HFM.out HOK.out
        unfold repA strV at this
        rw [HVM.out] at this
        exact this
    by_cases h42 : c = 42
    · subst h42
      rw [show (((42 : UInt8).toNat : Int)) = 42 from rfl]
      rw [if_neg (by decide), if_neg (by decide), if_neg (by decide), if_neg (by decide), if_pos rfl] at hm
      have HMM := Lib.hid hm
      clear hm
      by_cases hj8 : j = 8
      · have HL := Lib.hid (HFLAT.out hj8 t w2 HS2.out)
        subst hj8
        have hsz3 := lt_of_heap HZ2.out
        have HSZ := Lib.hid hsz3
        clear hsz3
        go_wp2_with fail
        refine HL.out.mono ?_
        intro e w4 h4
        obtain ⟨hk4, m, rfl, hgm, hfm, hst, hok⟩ := h4.out
        have HK4 := Lib.hid (HK2.out.trans hk4)
        have HZ4 := Lib.hid (HZ2.out.keptS hk4 (by omega))
        have HST := Lib.hid (show StR w4 g B (stO M) from by rw [HMM.out]; exact hst)
        have HOK := Lib.hid (show ∀ a r, M = .ok (a, r) → m.rep = a from by rw [HMM.out]; exact hok)
        have HGM := Lib.hid (hgm.mono (Q := fun j => b + 1 ≤ j) (fun j _ hP => by have := HSZ.out; omega))
        have HFM := Lib.hid hfm
        obtain ⟨apm, capm, hvm, _⟩ := hgm.row.parts
        have HVM := Lib.hid hvm
        obtain ⟨y0, y1, y2, y3⟩ := blk4 HZ4.out
        have hz4 := fun i => frozenB HZ4.out i
        have HS4 := Lib.hid (set4 HZ4.out (.int .i64 m.k) (.string ⟨m.s.toArray⟩) (.int .i64 m.n) (.slice apm m.l.length capm))
        unfold repA
        rw [hvm]
        unfold strV
        clear h4 hk4 hgm hfm hvm hst hok
        go_wp2_with fail
        refine bodyPost_ret (v := .agg #[.int .i64 m.k, .string ⟨m.s.toArray⟩, .int .i64 m.n, .slice apm m.l.length capm]) ((results_cell rfl _ _ _).trans ?_) rfl ?_
        · obtain ⟨f0, f1, f2, f3⟩ := blk4 HS4.out.1
          generalize ((((w4.setCell ⟨b, 0, none⟩ (.int .i64 m.k)).setCell ⟨b, 1, none⟩ (.string ⟨m.s.toArray⟩)).setCell ⟨b, 2, none⟩ (.int .i64 m.n)).setCell ⟨b, 3, none⟩ (.slice apm m.l.length capm)) = W6 at *
          go_simp
        · have := rfin HK4.out HST.out hgb HB.out HZ4.out HGM.out HFM.out HOK.out
          unfold repA strV at this
          rw [HVM.out] at this
          exact this
      · have hj7 : j < 8 := by omega
        have hj8i : ¬ ((j : Int) = 8) := by omega
        have hl := HARR.out hj7 t _ HS3.out
        rw [show (((j + 1 : Nat) : Int)) = (j : Int) + 1 by omega] at hl
        have HL := Lib.hid hl
        clear hl
        have hsz3 := lt_of_heap HZ3.out
        have HSZ := Lib.hid hsz3
        clear hsz3
        go_wp2_with fail
        refine HL.out.mono ?_
        intro e w4 h4
        obtain ⟨hk4, m, rfl, hgm, hfm, hst, hok⟩ := h4.out
        have HK4 := Lib.hid (HK3.out.trans hk4)
        have HZ4 := Lib.hid (HZ3.out.keptS hk4 (by omega))
        have HST := Lib.hid (show StR w4 g B (stO M) from by rw [HMM.out]; exact hst)
        have HOK := Lib.hid (show ∀ a r, M = .ok (a, r) → m.rep = a from by rw [HMM.out]; exact hok)
        have HGM := Lib.hid (hgm.mono (Q := fun j => b + 1 ≤ j) (fun j _ hP => by have := HSZ.out; omega))
        have HFM := Lib.hid hfm
        obtain ⟨apm, capm, hvm, _⟩ := hgm.row.parts
        have HVM := Lib.hid hvm
        obtain ⟨y0, y1, y2, y3⟩ := blk4 HZ4.out
        have hz4 := fun i => frozenB HZ4.out i
        have HS4 := Lib.hid (set4 HZ4.out (.int .i64 m.k) (.string ⟨m.s.toArray⟩) (.int .i64 m.n) (.slice apm m.l.length capm))
        unfold repA
        rw [hvm]
        unfold strV
        clear h4 hk4 hgm hfm hvm hst hok
        go_wp2_with fail
        refine bodyPost_ret (v := .agg #[.int .i64 m.k, .string ⟨m.s.toArray⟩, .int .i64 m.n, .slice apm m.l.length capm]) ((results_cell rfl _ _ _).trans ?_) rfl ?_
        · obtain ⟨f0, f1, f2, f3⟩ := blk4 HS4.out.1
          generalize ((((w4.setCell ⟨b, 0, none⟩ (.int .i64 m.k)).setCell ⟨b, 1, none⟩ (.string ⟨m.s.toArray⟩)).setCell ⟨b, 2, none⟩ (.int .i64 m.n)).setCell ⟨b, 3, none⟩ (.slice apm m.l.length capm)) = W6 at *
          go_simp
        · have := rfin HK4.out HST.out hgb HB.out HZ4.out HGM.out HFM.out HOK.out
          unfold repA strV at this
          rw [HVM.out] at this
          exact this
    · rw [if_neg h43, if_neg h45, if_neg h58, if_neg h36, if_neg h42] at hm
      subst hm
      have n43 : ¬ ((c.toNat : Int) = 43) := u8n 43 rfl h43
      have n45 : ¬ ((c.toNat : Int) = 45) := u8n 45 rfl h45
      have n58 : ¬ ((c.toNat : Int) = 58) := u8n 58 rfl h58
      have n36 : ¬ ((c.toNat : Int) = 36) := u8n 36 rfl h36
      have n42 : ¬ ((c.toNat : Int) = 42) := u8n 42 rfl h42
      obtain ⟨k, hk⟩ : ∃ k, k = c.toNat := ⟨_, rfl⟩
      rw [← hk] at n43 n45 n58 n36 n42 ⊢
      obtain ⟨p, hp⟩ := StR.toP (show StR w2 g B (.ok (c :: t)) from HS2.out)
      have hpi : i = p := by
        have := hp.cell.1
        rw [c1] at this
        injection this with this
        injection this with _ this
        omega
      subst hpi
      have hrest := hp.rest
      obtain ⟨v, hg3, hb3, hbl3, hpB3, hr3⟩ := (hp.step).1
      obtain ⟨d0, d1, d2, z0, z1, z2⟩ := blk3 hg3
      have hs4 := StR.setI (i' := i) (x := .ok (c :: t)) hg3 hb3 hbl3 (by omega) ⟨rfl, hrest⟩
      have hk4 := kg_set (w := w2.setCell ⟨g, 1, none⟩ (.int .i64 ((i : Int) + 1))) g 1 (.int .i64 i)
      have HW := Lib.hid (rfail g B (.ok (c :: t)) _ hs4 HBL.out)
      have HK4 := Lib.hid (HK3.out.trans hk4)
      have HZ4 := Lib.hid (HZ3.out.keptS hk4 (by omega))
      rw [show (((i + 1 : Nat) : Int)) = (i : Int) + 1 by omega] at d1
      clear hk h43 h45 h58 h36 h42 hp hrest hg3 hb3 hbl3 hpB3 hr3 hs4 hk4
      go_wp2_with fail
      refine HW.out.mono ?_
      rintro e w5 ⟨⟨u, rfl⟩, hk5, hs5⟩
      have HK5 := Lib.hid (HK4.out.trans hk5)
      have HZ5 := Lib.hid (HZ4.out.keptS hk5 (by omega))
      have HS5 := Lib.hid (show StR w5 g B (stO (Except.error (t.length + 1, false) : Except Flt (Rep × Bs))) from hs5)
      clear hk5 hs5
      obtain ⟨y0, y1, y2, y3⟩ := blk4 HZ5.out
      have hz4 := fun i => frozenB HZ5.out i
      have HSET := Lib.hid (set4 HZ5.out (.int .i64 0) (.string ⟨#[]⟩) (.int .i64 0) (.slice none 0 0))
      go_wp2_with fail
      refine bodyPost_ret (v := .agg #[.int .i64 0, .string ⟨#[]⟩, .int .i64 0, .slice none 0 0]) ((results_cell rfl _ _ _).trans ?_) rfl ?_
      · obtain ⟨f0, f1, f2, f3⟩ := blk4 HSET.out.1
        generalize ((((w5.setCell ⟨b, 0, none⟩ (.int .i64 0)).setCell ⟨b, 1, none⟩ (.string ⟨#[]⟩)).setCell ⟨b, 2, none⟩ (.int .i64 0)).setCell ⟨b, 3, none⟩ (.slice none 0 0)) = W6 at *
        go_simp
      · exact rleaf 0 [] 0 HK5.out HS5.out hgb HB.out HZ5.out (by decide) (by decide) (by simp) (fun a r h => by cases h)
theorem rreply : ∀ k, RRp k := by
  intro k
  induction k with
  | zero =>
    intro j g B l w hj h hl
    obtain rfl : j = 8 := by omega
    rw [repX_eq (k := 0) (arr := arr0) (fun t => repE0 t)]
    exact rreplyX arr0 8 g B l w (Nat.le_refl _) h hl (fun _ l' w' h' => rflat g B l' 42 w' h' hl) (fun h => absurd h (by omega))
  | succ k ih =>
    intro j g B l w hj h hl
    rw [repX_eq (k := k + 1) (arr := arrS k) (fun t => repES k t)]
    exact rreplyX (arrS k) j g B l w (by omega) h hl (fun h => absurd h (by omega)) (fun _ l' w' h' => rarray k ih (j + 1) g B l' w' (by omega) h' hl)
end Go.Proofs.YtpekeilpdbdnnaaDoor
namespace Go.Proofs.YtpekeilpdbdnnaaDoor
open Go.RowKit
attribute [local go_sem] fold_part fold_some fold_some' partAt_zero

set_option maxRecDepth 100000 in
set_option maxHeartbeats 3200000 in
theorem rDecode (v : Value) (b : Bs) (w : World) (h : BytesV w v b) (hl : b.length ≤ 1000000000) (hlt : ∀ j, vblk v = some j → j < w.heap.size) :
    Calls Tryd.prog 10 #[v] w (DecEnd w b) := by
  obtain ⟨ap, cap, rfl, hcp, _⟩ := h.parts
  obtain ⟨W0, hW0⟩ : ∃ W0, W0 = w.alloc (.cells #[.int .i64 0, .string ⟨#[]⟩, .int .i64 0, .slice none 0 0] 26) := ⟨_, rfl⟩
  have hk0 : Kept NoBlock w W0 := by rw [hW0]; exact Kept.allocd w _
  have hz0 : Z4 w.heap.size W0 := by rw [hW0]; exact heap_alloc_new w _
  have hs0 : W0.heap.size = w.heap.size + 1 := by rw [hW0]; exact World.size_alloc _ _
  have hk1 := Kept.allocd W0 (.cells #[.slice ap b.length cap, .int .i64 0, .int .i64 0] 62)
  have hgr := heap_alloc_new W0 (.cells #[.slice ap b.length cap, .int .i64 0, .int .i64 0] 62)
  have hkr := hk0.trans hk1
  have HK := Lib.hid hkr
  have HZ := Lib.hid (hz0.keptS hk1 (fun h => h))
  have HR := Lib.hid (show StR (W0.alloc (.cells #[.slice ap b.length cap, .int .i64 0, .int .i64 0] 62)) (w.heap.size + 1) b (.ok b) from
    ⟨_, 0, 0, by rw [← hs0]; exact hgr, h.keptNo hkr, fun j e => by have := hlt j e; omega, Nat.zero_le _, rfl, rfl⟩)
  have HL := Lib.hid hl
  obtain ⟨n, hn⟩ : ∃ n, n = b.length := ⟨_, rfl⟩
  rw [← hn] at HK HZ HR ⊢
  have HN := Lib.hid hn
  rw [hW0] at HK HZ HR
  clear hkr hgr h hl hn hcp hlt hk0 hz0 hs0 hk1 hW0
  go_enter Tryd.func10, Tryd.ntmps10
  go_wp2_with fail
  generalize (w.alloc (.cells #[.int .i64 0, .string ⟨#[]⟩, .int .i64 0, .slice none 0 0] 26)).alloc (.cells #[.slice ap n cap, .int .i64 0, .int .i64 0] 62) = W at *
  have hrp := rreply 8 0 (w.heap.size + 1) b b W rfl HR.out HL.out
  rw [show (((0 : Nat) : Int)) = 0 from rfl] at hrp
  refine hrp.mono ?_
  clear hrp
  intro e w2 h2
  obtain ⟨hk2, m, rfl, hgm, hfm, hst, hok⟩ := h2.out
  have hgW := HR.out.lt
  generalize hH : w.heap.size = H at *
  have HH := Lib.hid hH
  clear hH
  have HK2 := Lib.hid (Kept.trans' (S := NoBlock) HK.out hk2 (fun i hi e => by have := HH.out; omega))
  have HZ2 := Lib.hid (HZ.out.keptS hk2 (by omega))
  obtain ⟨apm, capm, hvm, _⟩ := hgm.row.parts
  have hka := Kept.allocd w2 (.cells #[.int .i64 m.k, .string ⟨m.s.toArray⟩, .int .i64 m.n, .slice apm m.l.length capm] 26)
  have hga := heap_alloc_new w2 (.cells #[.int .i64 m.k, .string ⟨m.s.toArray⟩, .int .i64 m.n, .slice apm m.l.length capm] 26)
  have HG3 := Lib.hid hga
  have HK3 := Lib.hid (HK2.out.trans hka)
  have HZ3 := Lib.hid (HZ2.out.keptS hka (fun h => h))
  have HGM := Lib.hid (hgm.keptN hka)
  have HFM := Lib.hid hfm
  have HVM := Lib.hid hvm
  have HST := Lib.hid (hst.kept hka)
  have HOK := Lib.hid hok
  have HZS := Lib.hid (show H + 1 < w2.heap.size from hst.lt)
  unfold repA
  rw [hvm]
  unfold strV
  clear h2 hk2 hgm hfm hst hok hvm hka hga
  cases htk : repE 8 b with
  | error f =>
    rw [htk] at HST HOK
    have hdec : decP b = (.mk 0 [] 0 [], fltAt b f, fltNo f) := by unfold decP; rw [htk]
    have HDEC := Lib.hid hdec
    have hst3 : StR _ (H + 1) b (.error f) := HST.out
    obtain ⟨ap3, cap3, i, e9, hg3, _, _, _, _, he9, hi9⟩ := hst3.cells
    obtain ⟨c0, c1, c2, f0, f1, f2⟩ := blk3 hg3
    have hne : ¬ e9 = 0 := by rw [he9]; exact fltNo_ne f
    have hneb : (e9 != 0) = true := by simpa using hne
    have HE9 := Lib.hid he9
    have HI9 := Lib.hid hi9
    clear hdec hst3 hg3 he9 hi9 HST HOK HG3
    go_wp2_with fail
    generalize w2.alloc (.cells #[.int .i64 m.k, .string ⟨m.s.toArray⟩, .int .i64 m.n, .slice apm m.l.length capm] 26) = W5 at *
    refine wp_planC (fun W' => W'.cell? ⟨H + 1, 1, none⟩ = some (.int .i64 i) ∧ W'.cell? ⟨H + 1, 2, none⟩ = some (.int .i64 e9)) 11 [.flt 1, .flt 2, .flt 3, .flt 4, .flt 5, .flt 6, .flt 7, .flt 8, .seg [0] 9] [10, 11] (by kernel_rfl) (by kernel_rfl) (fun _ _ _ dst _ h => by cases dst <;> exact h) (fun _ _ h => h) ⟨c1, c2⟩ (fun n0 => ?_)
    repeat (refine planC_flt rfl rfl ?_; apply Exists.intro; refine ⟨fun w' hw' => ?_, ?_⟩; (obtain ⟨hw1, hw2⟩ := hw'; go_simp; first | rfl | exact ⟨rfl, rfl⟩); simp only [Act.put, List.setIfInBounds_toArray, List.set_cons_succ, List.set_cons_zero])
    simp only [wpPlanC, pick, List.filterMap_cons, List.filterMap_nil, List.getElem?_cons_succ, List.getElem?_cons_zero]
    repeat (quiet_step (fail))
    refine wpQuiet_nil ?_
    rintro _ ⟨n1, rfl⟩
    have hkd : Kept NoBlock W5 ((W5.drewN n0).drewN n1) := ((Kept.refl NoBlock W5).drewN n0).drewN n1
    have HZ5 := Lib.hid (HZ3.out.keptS hkd (fun h => h))
    have HK5 := Lib.hid (HK3.out.trans hkd)
    have z1 := kept_cell hkd c1 (fun h => h)
    have z2 := kept_cell hkd c2 (fun h => h)
    generalize (W5.drewN n0).drewN n1 = W6 at *
    clear hkd c0 c1 c2 f0 f1 f2
    obtain ⟨y0, y1, y2, y3⟩ := blk4 HZ5.out
    have g0 := fun i => frozenB HZ5.out i
    have HS4 := Lib.hid (set4 HZ5.out (.int .i64 0) (.string ⟨#[]⟩) (.int .i64 0) (.slice none 0 0))
    go_wp2_with fail
    have z1 := kept_cell HS4.out.2 z1 (by simp)
    have z2 := kept_cell HS4.out.2 z2 (by simp)
    refine Halt.mk ⟨.inr ⟨z1, z2⟩, ?_⟩
    obtain ⟨x0, x1, x2, x3⟩ := blk4 HS4.out.1
    have HKS := Lib.hid (Kept.trans' HK5.out HS4.out.2 (fun i hi e => by have := HH.out; omega))
    have hs4 := HS4.out.1
    generalize (((W6.setCell ⟨H, 0, none⟩ (.int .i64 0)).setCell ⟨H, 1, none⟩ (.string ⟨#[]⟩)).setCell ⟨H, 2, none⟩ (.int .i64 0)).setCell ⟨H, 3, none⟩ (.slice none 0 0) = W7 at *
    have HB7 := Lib.hid hs4
    clear y0 y1 y2 y3 g0 HS4 hs4 z1 z2
    repeat (quiet_step (fail))
    refine wpQuiet_nil ?_
    rintro _ ⟨n2, rfl⟩
    have HB8 := Lib.hid (((Kept.refl NoBlock W7).drewN n2).heap HB7.out (fun h => h))
    have HK8 := Lib.hid (HKS.out.drewN n2)
    generalize W7.drewN n2 = W8 at *
    clear x0 x1 x2 x3
    obtain ⟨x0, x1, x2, x3⟩ := blk4 HB8.out
    go_wp2_with fail
    refine bodyPost_ret (v := .tuple #[.agg #[.int .i64 0, .string ⟨#[]⟩, .int .i64 0, .slice none 0 0], .int .i64 i, .int .i64 e9]) (by simp [results, Tryd.results10, go_sem, x0, x1, x2, x3]) rfl ?_
    refine ⟨HK8.out, leafM 0 [] 0, ?_, ?_, leafM_good _ _ _ _ _, fit_leaf 0 [] 0 (by decide) (by decide) (by simp)⟩
    · rw [HDEC.out, HE9.out, HI9.out]
      rfl
    · rw [HDEC.out]
      rfl
  | ok p =>
    obtain ⟨x, r⟩ := p
    rw [htk] at HST HOK
    have hst3 : StR _ (H + 1) b (.ok r) := HST.out
    obtain ⟨q, hq⟩ := hst3.toP
    have hq2 := hq.le
    have hmx := HOK.out x r rfl
    have hdec : decP b = (m.rep, q, 0) := by
      unfold decP
      rw [htk]
      simp only
      rw [hmx]
      congr 2
      omega
    have HDEC := Lib.hid hdec
    obtain ⟨c1, f1, c2⟩ := hq.cell
    obtain ⟨y0, y1, y2, y3⟩ := blk4 HG3.out
    clear hdec hst3 hq hq2 hmx HST HOK
    go_wp2_with fail
    generalize w2.alloc (.cells #[.int .i64 m.k, .string ⟨m.s.toArray⟩, .int .i64 m.n, .slice apm m.l.length capm] 26) = W5 at *
    generalize w2.heap.size = Z at *
    refine wp_planC (fun W' => W'.cell? ⟨H + 1, 1, none⟩ = some (.int .i64 q)) 7 [.flt 1, .flt 2, .flt 3, .flt 4, .seg [0] 5] [6, 7] (by kernel_rfl) (by kernel_rfl) (fun _ _ _ dst _ h => by cases dst <;> exact h) (fun _ _ h => h) c1 (fun n0 => ?_)
    repeat (refine planC_flt rfl rfl ?_; apply Exists.intro; refine ⟨fun w' hw' => ?_, ?_⟩; (go_simp; first | rfl | exact ⟨rfl, rfl⟩); simp only [Act.put, List.setIfInBounds_toArray, List.set_cons_succ, List.set_cons_zero])
    simp only [wpPlanC, pick, List.filterMap_cons, List.filterMap_nil, List.getElem?_cons_succ, List.getElem?_cons_zero]
    repeat (quiet_step (fail))
    refine wpQuiet_nil ?_
    rintro _ ⟨n1, rfl⟩
    have hkd : Kept NoBlock W5 ((W5.drewN n0).drewN n1) := ((Kept.refl NoBlock W5).drewN n0).drewN n1
    have HZ5 := Lib.hid (HZ3.out.keptS hkd (fun h => h))
    have HK5 := Lib.hid (HK3.out.trans hkd)
    have HGM5 := Lib.hid (HGM.out.keptN hkd)
    have z1 := kept_cell hkd c1 (fun h => h)
    generalize (W5.drewN n0).drewN n1 = W6 at *
    clear hkd c1 c2 f1 y0 y1 y2 y3
    obtain ⟨y0, y1, y2, y3⟩ := blk4 HZ5.out
    have g0 := fun i => frozenB HZ5.out i
    have HS4 := Lib.hid (set4 HZ5.out (.int .i64 m.k) (.string ⟨m.s.toArray⟩) (.int .i64 m.n) (.slice apm m.l.length capm))
    go_wp2_with fail
    have z1 := kept_cell HS4.out.2 z1 (by simp)
    refine Halt.mk ⟨.inr z1, ?_⟩
    have HKS := Lib.hid (Kept.trans' HK5.out HS4.out.2 (fun i hi e => by have := HH.out; omega))
    have HGM7 := Lib.hid (HGM5.out.kept HS4.out.2 (fun j _ hP e => by omega) (fun j _ hP => hP))
    have hs4 := HS4.out.1
    generalize (((W6.setCell ⟨H, 0, none⟩ (.int .i64 m.k)).setCell ⟨H, 1, none⟩ (.string ⟨m.s.toArray⟩)).setCell ⟨H, 2, none⟩ (.int .i64 m.n)).setCell ⟨H, 3, none⟩ (.slice apm m.l.length capm) = W7 at *
    have HB7 := Lib.hid hs4
    clear y0 y1 y2 y3 g0 HS4 hs4 z1
    repeat (quiet_step (fail))
    refine wpQuiet_nil ?_
    rintro _ ⟨n2, rfl⟩
    have HB8 := Lib.hid (((Kept.refl NoBlock W7).drewN n2).heap HB7.out (fun h => h))
    have HK8 := Lib.hid (HKS.out.drewN n2)
    have HGM8 := Lib.hid (HGM7.out.keptN ((Kept.refl NoBlock W7).drewN n2))
    generalize W7.drewN n2 = W8 at *
    obtain ⟨x0, x1, x2, x3⟩ := blk4 HB8.out
    go_wp2_with fail
    refine bodyPost_ret (v := .tuple #[.agg #[.int .i64 m.k, .string ⟨m.s.toArray⟩, .int .i64 m.n, .slice apm m.l.length capm], .int .i64 q, .int .i64 0]) (by simp [results, Tryd.results10, go_sem, x0, x1, x2, x3]) rfl ?_
    refine ⟨HK8.out, m, ?_, ?_, HGM8.out.mono (fun j _ hP => by have := HH.out; omega), HFM.out⟩
    · rw [HDEC.out]
      unfold repA strV
      rw [HVM.out]
    · rw [HDEC.out]
end Go.Proofs.YtpekeilpdbdnnaaDoor
