/- Merged: The document's reader: faults, the byte that comes, one byte, the line's end; The document's reader: digits. -/
import Derived.Test.YtpekeilpdbdnnaaDoorZYc2
set_option linter.all false
namespace Go.Proofs.YtpekeilpdbdnnaaDoor
open Go.RowKit
attribute [local go_sem] fold_part fold_some fold_some' partAt_zero

/-- What is left, or a fault. -/
def stM (B : Bs) (i : Nat) (e : Int) : Except Flt Bs → Prop
  | .ok l => e = 0 ∧ l = B.drop i
  | .error f => e = fltNo f ∧ i = fltAt B f
/-- The document's reader at g over B. -/
def StR (w : World) (g : Nat) (B : Bs) (x : Except Flt Bs) : Prop := ∃ (v : Value) (i : Nat) (e : Int), w.heap[g]? = some (.cells #[v, .int .i64 i, .int .i64 e] 62 (0, 0)) ∧ BytesV w v B ∧ (∀ b, vblk v = some b → b < g) ∧ i ≤ B.length ∧ stM B i e x
theorem StR.lt {w : World} {g : Nat} {B : Bs} {x : Except Flt Bs} (h : StR w g B x) : g < w.heap.size := by
  obtain ⟨v, i, e, hg, _⟩ := h; exact lt_of_heap hg
theorem StR.keptS {S : Nat → Prop} {w w' : World} {g : Nat} {B : Bs} {x : Except Flt Bs} (h : StR w g B x) (hk : Kept S w w') (hS : ∀ i, i ≤ g → ¬ S i) : StR w' g B x := by
  obtain ⟨v, i, e, hg, hv, h1, h2⟩ := h; exact ⟨v, i, e, hk.heap hg (hS g (Nat.le_refl _)), hv.kept hk (fun b e => hS b (Nat.le_of_lt (h1 b e))), h1, h2⟩
theorem StR.kept {w w' : World} {g : Nat} {B : Bs} {x : Except Flt Bs} (h : StR w g B x) (hk : Kept NoBlock w w') : StR w' g B x := h.keptS hk (fun _ _ h => h)
theorem fltNo_ne (f : Flt) : ¬ fltNo f = 0 := by unfold fltNo; split <;> decide

/-- How a call on it ends: by the model's word; a bad reader tells something. -/
def EndR {α : Type} (g : Nat) (B : Bs) (M : Except Flt (α × Bs)) (ret : α → Value → World → Prop) (bad : Value → World → Prop) (w : World) (e : Ending) (w' : World) : Prop :=
  KG g w w' ∧ ∃ v, e = .returned v ∧ match M with
  | .error f => bad v w' ∧ StR w' g B (.error f)
  | .ok (a, r) => ret a v w' ∧ StR w' g B (.ok r)

/-- The reader's cells. -/
theorem StR.cells {w : World} {g : Nat} {B : Bs} {x : Except Flt Bs} (h : StR w g B x) : ∃ (ap : Option Addr) (cap i : Nat) (e : Int), w.heap[g]? = some (.cells #[.slice ap B.length cap, .int .i64 i, .int .i64 e] 62 (0, 0)) ∧ BytesV w (.slice ap B.length cap) B ∧ (∀ b, vblk (.slice ap B.length cap) = some b → b < g) ∧ B.length ≤ cap ∧ i ≤ B.length ∧ stM B i e x := by
  obtain ⟨v, i, e, hg, hv, h1, h2, h3⟩ := h
  obtain ⟨ap, cap, rfl, hc, _⟩ := hv.parts
  exact ⟨ap, cap, i, e, hg, hv, h1, hc, h2, h3⟩
/-- Its fault is stored. -/
theorem StR.setE {w : World} {g : Nat} {B : Bs} {v : Value} {i : Nat} {e e' : Int} {x : Except Flt Bs} (hg : w.heap[g]? = some (.cells #[v, .int .i64 i, .int .i64 e] 62 (0, 0))) (hv : BytesV w v B) (hb : ∀ b, vblk v = some b → b < g) (hi : i ≤ B.length) (hm : stM B i e' x) : StR (w.setCell ⟨g, 2, none⟩ (.int .i64 e')) g B x := by
  have hk := kg_set (w := w) g 2 (.int .i64 e')
  exact ⟨v, i, e', heap_setCell_same hg 2 _, hv.kept hk (fun b e h => by have := hb b e; omega), hb, hi, hm⟩
/-- Its place is stored. -/
theorem StR.setI {w : World} {g : Nat} {B : Bs} {v : Value} {i i' : Nat} {e : Int} {x : Except Flt Bs} (hg : w.heap[g]? = some (.cells #[v, .int .i64 i, .int .i64 e] 62 (0, 0))) (hv : BytesV w v B) (hb : ∀ b, vblk v = some b → b < g) (hi : i' ≤ B.length) (hm : stM B i' e x) : StR (w.setCell ⟨g, 1, none⟩ (.int .i64 i')) g B x := by
  have hk := kg_set (w := w) g 1 (.int .i64 i')
  exact ⟨v, i', e, heap_setCell_same hg 1 _, hv.kept hk (fun b e h => by have := hb b e; omega), hb, hi, hm⟩

def failE : Except Flt Bs → Flt
  | .error f => f
  | .ok l => (l.length, l.isEmpty)

set_option maxRecDepth 100000 in
theorem rfail (g : Nat) (B : Bs) (x : Except Flt Bs) (w : World) (h : StR w g B x) (hl : B.length ≤ 1000000000) :
    Calls Tryd.prog 46 #[.pointer (some ⟨g, 0, none⟩)] w fun e w' => (∃ u, e = .returned u) ∧ KG g w w' ∧ StR w' g B (.error (failE x)) := by
  cases x with
  | error f =>
    have HS := Lib.hid h
    obtain ⟨ap, cap, i, e, hg, _, _, _, _, he, _⟩ := h.cells
    obtain ⟨c0, c1, c2, f0, f1, f2⟩ := blk3 hg
    have hne : ¬ e = 0 := by rw [he]; exact fltNo_ne f
    clear hg he h
    go_enter Tryd.func46, Tryd.ntmps46
    go_wp2_with fail
    exact bodyPost_end (results_none rfl _ _ _) rfl ⟨⟨_, rfl⟩, (Kept.refl NoBlock w).kg g, HS.out⟩
  | ok l =>
    obtain ⟨ap, cap, i, e, hg, hv, hb, hc, hi, rfl, rfl⟩ := h.cells
    obtain ⟨c0, c1, c2, f0, f1, f2⟩ := blk3 hg
    have hk2 := kg_set (w := w) g 2 (.int .i64 30)
    have hg2 := heap_setCell_same hg 2 (.int .i64 30)
    simp only [List.setIfInBounds_toArray, List.set_cons_succ, List.set_cons_zero] at hg2
    obtain ⟨d0, d1, d2, e0, e1, e2⟩ := blk3 hg2
    have hv2 := hv.kept hk2 (fun b e h => by have := hb b e; omega)
    obtain ⟨n, hn⟩ : ∃ n, n = B.length := ⟨_, rfl⟩
    have HG := Lib.hid hg
    have HG2 := Lib.hid hg2
    have HV := Lib.hid hv
    have HV2 := Lib.hid hv2
    have HB := Lib.hid hb
    rw [← hn] at c0 d0 hi hl
    have HN := Lib.hid hn
    have hlen : (B.drop i).length = n - i := by rw [List.length_drop, hn]
    by_cases hlt : i < n
    · have hfe : failE (.ok (B.drop i)) = (n - i, false) := by
        show ((B.drop i).length, (B.drop i).isEmpty) = _
        rw [hlen]
        congr 1
        cases hd : B.drop i with
        | nil => rw [hd] at hlen; simp at hlen; omega
        | cons a b => rfl
      rw [hfe]
      have hdec : decide ((n : Int) ≤ (i : Int)) = false := decide_eq_false (by omega)
      clear hg hg2 hv hv2 hb hn hlen hfe hk2
      go_enter Tryd.func46, Tryd.ntmps46
      go_wp2_with fail
      go_quiet (fail)
      go_wp2_with fail
      refine bodyPost_end (results_none rfl _ _ _) rfl ⟨⟨_, rfl⟩, (kg_set g 2 _).drewN _, StR.kept (StR.setE HG.out HV.out HB.out (by have := HN.out; omega) ⟨rfl, ?_⟩) ((Kept.refl NoBlock _).drewN _)⟩
      unfold fltAt
      rw [← HN.out]
      show i = n - (n - i)
      omega
    · obtain rfl : i = n := by omega
      have hfe : failE (.ok (B.drop i)) = (0, true) := by
        rw [List.drop_of_length_le (by omega)]; rfl
      rw [hfe]
      clear hg hg2 hv hv2 hb hn hlen hfe hk2
      go_enter Tryd.func46, Tryd.ntmps46
      go_wp2_with fail
      go_quiet (fail)
      rename_i nq
      have hkd := (Kept.refl NoBlock (w.setCell ⟨g, 2, none⟩ (.int .i64 30))).drewN nq
      have HG3 := Lib.hid (hkd.heap HG2.out (fun h => h))
      have HV3 := Lib.hid (HV2.out.keptNo hkd)
      have HK3 := Lib.hid ((kg_set (w := w) g 2 (.int .i64 30)).trans (hkd.kg g))
      generalize (w.setCell ⟨g, 2, none⟩ (.int .i64 30)).drewN nq = w3 at *
      obtain ⟨d0, d1, d2, e0, e1, e2⟩ := blk3 HG3.out
      clear hkd
      go_wp2_with fail
      refine bodyPost_end (results_none rfl _ _ _) rfl ⟨⟨_, rfl⟩, HK3.out.trans (kg_set g 2 _), StR.setE HG3.out HV3.out HB.out (by have := HN.out; omega) ⟨rfl, ?_⟩⟩
      exact HN.out

def byteC : Except Flt Bs → UInt8
  | .ok (c :: _) => c
  | _ => 0
def byteS : Except Flt Bs → Except Flt Bs
  | .ok [] => .error (0, true)
  | x => x
set_option maxRecDepth 100000 in
theorem rbyte (g : Nat) (B : Bs) (x : Except Flt Bs) (w : World) (h : StR w g B x) (hl : B.length ≤ 1000000000) :
    Calls Tryd.prog 39 #[.pointer (some ⟨g, 0, none⟩)] w fun e w' => e = .returned (.int .u8 (byteC x).toNat) ∧ KG g w w' ∧ StR w' g B (byteS x) := by
  have HS := Lib.hid h
  obtain ⟨ap, cap, i, e, hg, hv, hb, hc, hi, hm⟩ := h.cells
  obtain ⟨c0, c1, c2, f0, f1, f2⟩ := blk3 hg
  obtain ⟨n, hn⟩ : ∃ n, n = B.length := ⟨_, rfl⟩
  have HL := Lib.hid hl
  rw [← hn] at c0 hi hl hc
  have HN := Lib.hid hn
  cases x with
  | error f =>
    have hne : ¬ e = 0 := by rw [hm.1]; exact fltNo_ne f
    have hneb : (e == 0) = false := by simpa using hne
    clear hg hv hb hm hn h
    go_enter Tryd.func39, Tryd.ntmps39
    go_wp2_with fail
    go_quiet (fail)
    go_wp2_with fail
    go_ret
    exact ⟨rfl, ((Kept.refl NoBlock w).drewN _).kg g, HS.out.kept ((Kept.refl NoBlock w).drewN _)⟩
  | ok l =>
    obtain ⟨rfl, hll⟩ := hm
    cases l with
    | nil =>
      have hin : i = n := by
        have := congrArg List.length hll
        rw [List.length_drop, ← hn] at this
        simp at this
        omega
      subst hin
      clear hg hv hb hll hn h
      go_enter Tryd.func39, Tryd.ntmps39
      go_wp2_with fail
      go_quiet (fail)
      rename_i nq
      have HF := Lib.hid (rfail g B (.ok []) (w.drewN nq) (HS.out.kept ((Kept.refl NoBlock w).drewN nq)) HL.out)
      have HK1 := Lib.hid (((Kept.refl NoBlock w).drewN nq).kg g)
      generalize w.drewN nq = w1 at *
      go_wp2_with fail
      refine HF.out.mono ?_
      rintro e w2 ⟨⟨u, rfl⟩, hk2, hs2⟩
      have HK2 := Lib.hid (HK1.out.trans hk2)
      have HS2 := Lib.hid hs2
      obtain ⟨ap2, cap2, i2, e2, hg2, _, _, _, _, hm2, _⟩ := hs2.cells
      obtain ⟨d0, d1, d2, _, _, _⟩ := blk3 hg2
      have he2 : e2 = 31 := hm2
      subst he2
      clear hk2 hs2 hg2 c0 c1 c2 f0 f1 f2
      go_wp2_with fail
      go_ret
      exact ⟨rfl, HK2.out, HS2.out⟩
    | cons c r =>
      obtain ⟨hilt, _⟩ := drop_cons hll.symm
      have hcc : B[i]? = some c := by
        have := congrArg List.head? hll
        rw [List.head?_drop] at this
        exact this.symm
      rw [← hn] at hv hilt
      obtain ⟨ad, rfl, a0⟩ := RowV.cell hv (i := i) (v := bv c) (by rw [List.getElem?_map, hcc]; rfl)
      unfold bv at a0
      have hdec : decide ((n : Int) ≤ (i : Int)) = false := decide_eq_false (by omega)
      clear hg hv hb hll hcc hn h
      go_enter Tryd.func39, Tryd.ntmps39
      go_wp2_with fail
      go_quiet (fail)
      go_wp2_with fail
      go_quiet (fail)
      go_wp2_with fail
      go_ret
      exact ⟨rfl, (((Kept.refl NoBlock w).drewN _).drewN _).kg g, HS.out.kept (((Kept.refl NoBlock w).drewN _).drewN _)⟩

def stepE (x : Except Flt Bs) (F : Bs → Except Flt Bs) : Except Flt Bs := match x with
  | .error f => .error f
  | .ok l => F l
/-- A step on. -/
theorem StR.inc {w : World} {g : Nat} {B : Bs} {c : UInt8} {r : Bs} (h : StR w g B (.ok (c :: r))) (hl : B.length ≤ 1000000000) :
    ∃ i : Nat, w.cell? ⟨g, 1, none⟩ = some (.int .i64 i) ∧ w.frozen? ⟨g, 1, none⟩ = false ∧ w.cell? ⟨g, 2, none⟩ = some (.int .i64 0) ∧ i ≤ 1000000000 ∧ StR (w.setCell ⟨g, 1, none⟩ (.int .i64 ((i : Int) + 1))) g B (.ok r) ∧ KG g w (w.setCell ⟨g, 1, none⟩ (.int .i64 ((i : Int) + 1))) := by
  obtain ⟨ap, cap, i, e, hg, hv, hb, hc, hi, rfl, hll⟩ := h.cells
  obtain ⟨c0, c1, c2, f0, f1, f2⟩ := blk3 hg
  obtain ⟨h1, h2⟩ := drop_cons hll.symm
  refine ⟨i, c1, f1, c2, by omega, ?_, kg_set g 1 _⟩
  rw [show ((i : Int) + 1) = ((i + 1 : Nat) : Int) by omega]
  exact StR.setI hg hv hb (by omega) ⟨rfl, h2⟩
theorem StR.bad {w : World} {g : Nat} {B : Bs} {f : Flt} (h : StR w g B (.error f)) : ∃ e : Int, w.cell? ⟨g, 2, none⟩ = some (.int .i64 e) ∧ ¬ e = 0 := by
  obtain ⟨ap, cap, i, e, hg, _, _, _, _, he, _⟩ := h.cells
  exact ⟨e, (blk3 hg).2.2.1, by rw [he]; exact fltNo_ne f⟩

set_option maxRecDepth 100000 in
theorem rmust (g : Nat) (B : Bs) (x : Except Flt Bs) (c : UInt8) (hc : ¬ c = 0) (w : World) (h : StR w g B x) (hl : B.length ≤ 1000000000) :
    Calls Tryd.prog 58 #[.pointer (some ⟨g, 0, none⟩), .int .u8 c.toNat] w fun e w' => (∃ u, e = .returned u) ∧ KG g w w' ∧ StR w' g B (stepE x (mustB c)) := by
  have HB := Lib.hid (rbyte g B x w h hl)
  have HL := Lib.hid hl
  obtain ⟨k, hk⟩ : ∃ k, k = c.toNat := ⟨_, rfl⟩
  have hk0 : ¬ k = 0 := fun e => hc (UInt8.toNat_inj.1 (by rw [← hk, e]; rfl))
  have hk256 : k < 256 := by rw [hk]; exact UInt8.toNat_lt c
  rw [← hk]
  have HK := Lib.hid hk
  clear h hl hk
  by_cases hbad : ∃ f, byteS x = .error f ∧ byteC x = 0 ∧ stepE x (mustB c) = .error f
  · obtain ⟨f, e1, e2, e3⟩ := hbad
    rw [e1, e2] at HB
    rw [e3]
    rw [show (((0 : UInt8).toNat : Int)) = 0 from rfl] at HB
    have hne : ¬ ((0 : Int) = (k : Int)) := by omega
    have hneb : ((0 : Int) != (k : Int)) = true := by simpa using hne
    clear e1 e2 e3
    go_enter Tryd.func58, Tryd.ntmps58
    go_wp2_with fail
    refine HB.out.mono ?_
    rintro e w2 ⟨rfl, hk2, hs2⟩
    have HK2 := Lib.hid hk2
    have HF := Lib.hid (rfail g B (.error f) w2 hs2 HL.out)
    clear hk2 hs2
    go_wp2_with fail
    refine HF.out.mono ?_
    rintro e w3 ⟨⟨u, rfl⟩, hk3, hs3⟩
    have HK3 := Lib.hid (HK2.out.trans hk3)
    have HS3 := Lib.hid (show StR w3 g B (.error f) from hs3)
    obtain ⟨e9, d2, hne9⟩ := HS3.out.bad
    clear hk3 hs3
    go_wp2_with fail
    exact bodyPost_end (results_none rfl _ _ _) rfl ⟨⟨_, rfl⟩, HK3.out, HS3.out⟩
  · cases x with
    | error f => exact absurd ⟨f, rfl, rfl, rfl⟩ hbad
    | ok l =>
      cases l with
      | nil => exact absurd ⟨(0, true), rfl, rfl, rfl⟩ hbad
      | cons d r =>
        clear hbad
        by_cases hdc : d = c
        · have hM : stepE (.ok (d :: r)) (mustB c) = .ok r := by show mustB c (d :: r) = _; rw [mustB, if_pos hdc]
          rw [hM]
          have hdk : d.toNat = k := by rw [hdc, HK.out]
          clear hM hdc
          go_enter Tryd.func58, Tryd.ntmps58
          go_wp2_with fail
          refine HB.out.mono ?_
          rintro e w2 ⟨rfl, hk2, hs2⟩
          rw [show (byteC (.ok (d :: r))).toNat = k from hdk]
          obtain ⟨i, c1, f1, c2, hi9, hs3, hk3⟩ := StR.inc (show StR w2 g B (.ok (d :: r)) from hs2) HL.out
          have HS3 := Lib.hid hs3
          have HK3 := Lib.hid (KG.trans hk2 hk3)
          clear hk2 hs2 hs3 hk3
          go_wp2_with fail
          exact bodyPost_end (results_none rfl _ _ _) rfl ⟨⟨_, rfl⟩, HK3.out, HS3.out⟩
        · have hM : stepE (.ok (d :: r)) (mustB c) = .error (r.length + 1, false) := by show mustB c (d :: r) = _; rw [mustB, if_neg hdc]
          rw [hM]
          have hdk : ¬ ((d.toNat : Int) = (k : Int)) := by rw [HK.out]; exact u8_neI hdc
          clear hM hdc
          go_enter Tryd.func58, Tryd.ntmps58
          go_wp2_with fail
          refine HB.out.mono ?_
          rintro e w2 ⟨rfl, hk2, hs2⟩
          have HF := Lib.hid (rfail g B (.ok (d :: r)) w2 hs2 HL.out)
          have HK2 := Lib.hid hk2
          rw [show byteC (.ok (d :: r)) = d from rfl]
          clear hk2 hs2
          go_wp2_with fail
          refine HF.out.mono ?_
          rintro e w3 ⟨⟨u, rfl⟩, hk3, hs3⟩
          have HK3 := Lib.hid (HK2.out.trans hk3)
          have HS3 := Lib.hid (show StR w3 g B (.error (r.length + 1, false)) from hs3)
          obtain ⟨e9, d2, hne9⟩ := HS3.out.bad
          clear hk3 hs3
          go_wp2_with fail
          exact bodyPost_end (results_none rfl _ _ _) rfl ⟨⟨_, rfl⟩, HK3.out, HS3.out⟩

set_option maxRecDepth 100000 in
theorem rend (g : Nat) (B : Bs) (x : Except Flt Bs) (w : World) (h : StR w g B x) (hl : B.length ≤ 1000000000) :
    Calls Tryd.prog 43 #[.pointer (some ⟨g, 0, none⟩)] w fun e w' => (∃ u, e = .returned u) ∧ KG g w w' ∧ StR w' g B (stepE x endB) := by
  have h1 := rmust g B x 13 (by decide) w h hl
  have h2 := fun w' hs => rmust g B (stepE x (mustB 13)) 10 (by decide) w' hs hl
  have hm : stepE (stepE x (mustB 13)) (mustB 10) = stepE x endB := by
    cases x with
    | error f => rfl
    | ok l =>
      show stepE (mustB 13 l) (mustB 10) = endB l
      unfold endB stepE
      cases mustB 13 l <;> rfl
  rw [hm] at h2
  rw [show (((13 : UInt8).toNat : Int)) = 13 from rfl] at h1
  rw [show (((10 : UInt8).toNat : Int)) = 10 from rfl] at h2
  have H1 := Lib.hid h1
  have H2 := Lib.hid h2
  clear h1 h2 hm h
  go_enter Tryd.func43, Tryd.ntmps43
  go_wp2_with fail
  refine H1.out.mono ?_
  rintro e w2 ⟨⟨u, rfl⟩, hk2, hs2⟩
  have HK2 := Lib.hid hk2
  have HS2 := Lib.hid (H2.out w2 hs2)
  clear hk2 hs2
  go_wp2_with fail
  refine HS2.out.mono ?_
  rintro e w3 ⟨⟨u, rfl⟩, hk3, hs3⟩
  have HK3 := Lib.hid (HK2.out.trans hk3)
  have HS3 := Lib.hid hs3
  clear hk3 hs3
  go_wp2_with fail
  exact bodyPost_end (results_none rfl _ _ _) rfl ⟨⟨_, rfl⟩, HK3.out, HS3.out⟩
end Go.Proofs.YtpekeilpdbdnnaaDoor
namespace Go.Proofs.YtpekeilpdbdnnaaDoor
open Go.RowKit
attribute [local go_sem] fold_part fold_some fold_some' partAt_zero

/-- The document's reader, good, at p. -/
def StP (w : World) (g : Nat) (B : Bs) (p : Nat) (l : Bs) : Prop := ∃ v : Value, w.heap[g]? = some (.cells #[v, .int .i64 p, .int .i64 0] 62 (0, 0)) ∧ BytesV w v B ∧ (∀ b, vblk v = some b → b < g) ∧ p ≤ B.length ∧ l = B.drop p
theorem StP.toS {w : World} {g : Nat} {B l : Bs} {p : Nat} (h : StP w g B p l) : StR w g B (.ok l) := by
  obtain ⟨v, h1, h2, h3, h4, h5⟩ := h; exact ⟨v, p, 0, h1, h2, h3, h4, rfl, h5⟩
theorem StR.toP {w : World} {g : Nat} {B l : Bs} (h : StR w g B (.ok l)) : ∃ p, StP w g B p l := by
  obtain ⟨v, p, e, h1, h2, h3, h4, rfl, h5⟩ := h; exact ⟨p, v, h1, h2, h3, h4, h5⟩
theorem StP.le {w : World} {g : Nat} {B l : Bs} {p : Nat} (h : StP w g B p l) : p ≤ B.length ∧ l.length = B.length - p := by
  obtain ⟨v, _, _, _, h1, rfl⟩ := h
  exact ⟨h1, List.length_drop ..⟩
theorem StR.toP' {w w' : World} {g : Nat} {B l : Bs} {p : Nat} (h : StR w' g B (.ok l)) (h0 : StP w g B p l) : StP w' g B p l := by
  obtain ⟨q, hq⟩ := h.toP
  have h1 := hq.le
  have h2 := h0.le
  obtain rfl : p = q := by omega
  exact hq
theorem StP.kept {w w' : World} {g : Nat} {B l : Bs} {p : Nat} (h : StP w g B p l) (hk : Kept NoBlock w w') : StP w' g B p l := (h.toS.kept hk).toP' h
theorem StP.cell {w : World} {g : Nat} {B l : Bs} {p : Nat} (h : StP w g B p l) : w.cell? ⟨g, 1, none⟩ = some (.int .i64 p) ∧ w.frozen? ⟨g, 1, none⟩ = false ∧ w.cell? ⟨g, 2, none⟩ = some (.int .i64 0) := by
  obtain ⟨v, hg, _⟩ := h
  exact ⟨cellB hg rfl, frozenB hg 1, cellB hg rfl⟩
theorem StP.pos {w : World} {g : Nat} {B l : Bs} {p : Nat} (h : StP w g B p l) : posW w g = p := by
  unfold posW
  rw [h.cell.1]
  rfl
theorem StP.rest {w : World} {g : Nat} {B l : Bs} {p : Nat} (h : StP w g B p l) : l = B.drop p := by
  obtain ⟨_, _, _, _, _, h⟩ := h; exact h
theorem StP.step {w : World} {g : Nat} {B r : Bs} {p : Nat} {c : UInt8} (h : StP w g B p (c :: r)) : StP (w.setCell ⟨g, 1, none⟩ (.int .i64 ((p : Int) + 1))) g B (p + 1) r ∧ KG g w (w.setCell ⟨g, 1, none⟩ (.int .i64 ((p : Int) + 1))) := by
  obtain ⟨v, hg, hb, hbl, hp, hq⟩ := h
  obtain ⟨hp1, hr⟩ := drop_cons hq.symm
  have hkg := kg_set (w := w) g 1 (.int .i64 ((p : Int) + 1))
  exact ⟨⟨v, heap_setCell_same hg 1 _, hb.kept hkg (fun b e h => by have := hbl b e; omega), hbl, hp1, hr⟩, hkg⟩
theorem StR.badP {w : World} {g : Nat} {B : Bs} {f : Flt} (h : StR w g B (.error f)) : ∃ e : Int, w.cell? ⟨g, 2, none⟩ = some (.int .i64 e) ∧ ¬ e = 0 ∧ w.cell? ⟨g, 1, none⟩ = some (.int .i64 (fltAt B f : Nat)) := by
  obtain ⟨ap, cap, i, e, hg, _, _, _, _, he, hi⟩ := h.cells
  obtain ⟨c0, c1, c2, _⟩ := blk3 hg
  exact ⟨e, c2, by rw [he]; exact fltNo_ne f, by rw [c1, hi]⟩

def bindN {α : Type} (x : Except Flt Bs) (F : Bs → Except Flt (α × Bs)) : Except Flt (α × Bs) := match x with
  | .error f => .error f
  | .ok l => F l
def badU (most : Nat) (v : Value) (_ : World) : Prop := ∃ n : Nat, v = .int .u64 n ∧ n ≤ most

set_option maxRecDepth 100000 in
set_option maxHeartbeats 3200000 in
theorem rdigits (g : Nat) (B : Bs) (x : Except Flt Bs) (most : Nat) (w : World) (h : StR w g B x) (hl : B.length ≤ 1000000000) (hm9 : 9 ≤ most) (hm : most < 18446744073709551616) :
    Calls Tryd.prog 59 #[.pointer (some ⟨g, 0, none⟩), .int .u64 most] w (EndR g B (bindN x (numbB most)) retU (badU most) w) := by
  cases x with
  | error f =>
    obtain ⟨e, c2, hne, c1⟩ := h.badP
    have HF := Lib.hid (rfail g B (.error f) w h hl)
    have hneb : (e == 0) = false := by simpa using hne
    show Calls _ _ _ _ (EndR g B (.error f) retU (badU most) w)
    generalize fltAt B f = p at *
    clear h
    go_enter Tryd.func59, Tryd.ntmps59
    go_wp2_with fail
    go_loopw [5] (fun v5 wr => v5 = .int .u64 0 ∧ wr = w) (fun _ _ => 0)
    case atStart => exact ⟨rfl, rfl⟩
    case round =>
      obtain ⟨rfl, rfl⟩ := hrel
      go_wp2_with fail
      refine HF.out.mono ?_
      rintro e w2 ⟨⟨u, rfl⟩, hk2, hs2⟩
      have HK2 := Lib.hid hk2
      have HS2 := Lib.hid hs2
      clear hk2 hs2
      go_wp2_with fail
      go_ret
      exact ⟨HK2.out, _, rfl, ⟨0, rfl, Nat.zero_le _⟩, HS2.out⟩
  | ok l =>
    show Calls _ _ _ _ (EndR g B (numbB most l) retU (badU most) w)
    obtain ⟨p0, h⟩ := h.toP
    obtain ⟨c1, f1, _⟩ := h.cell
    obtain ⟨hp0, _⟩ := h.le
    obtain ⟨M, hM⟩ : ∃ M, M = numbB most l := ⟨_, rfl⟩
    rw [← hM]
    have HM := Lib.hid hM
    have HR := Lib.hid h
    have HBL := Lib.hid hl
    have hp09 : p0 ≤ 1000000000 := by omega
    clear hM h hl hp0
    go_enter Tryd.func59, Tryd.ntmps59
    go_wp2_with fail
    clear c1 f1
    go_loopw [5] (fun v5 wr => ∃ (n : Nat) (q : Bs) (p : Nat), v5 = .int .u64 n ∧ n ≤ most ∧ KG g w wr ∧ StP wr g B p q ∧ p0 ≤ p ∧ numbB most l = digB most q n (decide (p = p0))) (fun _ wr => B.length - posW wr g)
    case atStart => exact ⟨0, l, p0, rfl, Nat.zero_le _, (Kept.refl NoBlock w).kg g, HR.out, Nat.le_refl _, by unfold numbB; rw [decide_eq_true rfl]⟩
    case round =>
      obtain ⟨n, q, p, rfl, hn, hk, hq, hpp, hmod⟩ := hrel
      obtain ⟨hpB, hqlen⟩ := hq.le
      obtain ⟨c1, f1, c2⟩ := hq.cell
      have hp9 : p ≤ 1000000000 := by have := HBL.out; omega
      have HNX := Lib.hid (rbyte g B (.ok q) wr hq.toS HBL.out)
      have HK := Lib.hid hk
      have HQ := Lib.hid hq
      have HMO := Lib.hid hmod
      have HPB := Lib.hid hpB
      clear hk hq hmod hpB hqlen
      go_wp2_with fail
      refine HNX.out.mono ?_
      rintro e w2 ⟨rfl, hk2, hs2⟩
      have HK2 := Lib.hid (HK.out.trans hk2)
      have HS2 := Lib.hid hs2
      have HPW := Lib.hid HQ.out.pos
      clear hk2 HNX c1 f1 c2 hs2
      cases q with
      | nil =>
        have hs : StR w2 g B (.error (0, true)) := HS2.out
        rw [show byteC (.ok []) = 0 from rfl, show (((0 : UInt8).toNat : Int)) = 0 from rfl]
        have hMe : M = .error (0, true) := by rw [HM.out, HMO.out]; rw [digB]
        subst hMe
        obtain ⟨e9, d2, hne9, d1⟩ := hs.badP
        have hpe : fltAt B (0, true) = p := by
          have := HQ.out.le
          unfold fltAt
          simp only [List.length_nil] at this
          simp only
          omega
        rw [hpe] at d1
        have HSS := Lib.hid hs
        have HF := Lib.hid (rfail g B (.error (0, true)) w2 hs HBL.out)
        clear hs hpe
        by_cases hpe : p = p0
        · subst hpe
          go_wp2_with fail
          refine HF.out.mono ?_
          rintro e w3 ⟨⟨u, rfl⟩, hk3, hs3⟩
          have HK3 := Lib.hid (HK2.out.trans hk3)
          have HS3 := Lib.hid hs3
          clear hk3 hs3
          go_wp2_with fail
          go_ret
          exact ⟨HK3.out, _, rfl, ⟨n, rfl, hn⟩, HS3.out⟩
        · go_wp2_with fail
          go_ret
          exact ⟨HK2.out, _, rfl, ⟨n, rfl, hn⟩, HSS.out⟩
      | cons c r =>
        rw [show byteC (.ok (c :: r)) = c from rfl]
        have HQ2 := Lib.hid (StR.toP' (show StR w2 g B (.ok (c :: r)) from HS2.out) HQ.out)
        obtain ⟨c1, f1, c2⟩ := HQ2.out.cell
        have HRL := Lib.hid HQ2.out.le
        obtain ⟨k, hk⟩ : ∃ k, k = c.toNat := ⟨_, rfl⟩
        rw [← hk]
        have hk256 : k < 256 := by rw [hk]; exact UInt8.toNat_lt c
        have HKK := Lib.hid hk
        clear hk
        have hc48 : c < 48 ↔ k < 48 := by rw [HKK.out, UInt8.lt_iff_toNat_lt]; exact Iff.rfl
        have hc57 : 57 < c ↔ 57 < k := by rw [HKK.out, UInt8.lt_iff_toNat_lt]; exact Iff.rfl
        have HC48 := Lib.hid hc48
        have HC57 := Lib.hid hc57
        clear hc48 hc57
        by_cases h48 : k < 48
        · have hno := digB_no (most := most) (c := c) (r := r) (n := n) (first := decide (p = p0)) (.inl (HC48.out.2 h48))
          have HNO := Lib.hid (HMO.out.trans hno)
          clear hno
          by_cases hpe : p = p0
          · subst hpe
            have hMe : M = .error (r.length + 1, false) := by rw [HM.out, HNO.out, decide_eq_true rfl]; rfl
            subst hMe
            have HF := Lib.hid (rfail g B (.ok (c :: r)) w2 HQ2.out.toS HBL.out)
            (try clear hz)
            go_wp2_with fail
            refine HF.out.mono ?_
            rintro e w3 ⟨⟨u, rfl⟩, hk3, hs3⟩
            have HK3 := Lib.hid (HK2.out.trans hk3)
            have HS3 := Lib.hid hs3
            clear hk3 hs3
            go_wp2_with fail
            go_ret
            exact ⟨HK3.out, _, rfl, ⟨n, rfl, hn⟩, HS3.out⟩
          · skip
            have hpg : p0 < p := by omega
            have hMe : M = .ok (n, c :: r) := by rw [HM.out, HNO.out, decide_eq_false hpe]; rfl
            subst hMe
            go_wp2_with fail
            go_ret
            exact ⟨HK2.out, _, rfl, rfl, HQ2.out.toS⟩
        by_cases h57 : 57 < k
        · have hno := digB_no (most := most) (c := c) (r := r) (n := n) (first := decide (p = p0)) (.inr (.inl (HC57.out.2 h57)))
          have HNO := Lib.hid (HMO.out.trans hno)
          clear hno
          by_cases hpe : p = p0
          · subst hpe
            have hMe : M = .error (r.length + 1, false) := by rw [HM.out, HNO.out, decide_eq_true rfl]; rfl
            subst hMe
            have HF := Lib.hid (rfail g B (.ok (c :: r)) w2 HQ2.out.toS HBL.out)
            (try clear hz)
            go_wp2_with fail
            refine HF.out.mono ?_
            rintro e w3 ⟨⟨u, rfl⟩, hk3, hs3⟩
            have HK3 := Lib.hid (HK2.out.trans hk3)
            have HS3 := Lib.hid hs3
            clear hk3 hs3
            go_wp2_with fail
            go_ret
            exact ⟨HK3.out, _, rfl, ⟨n, rfl, hn⟩, HS3.out⟩
          · skip
            have hpg : p0 < p := by omega
            have hMe : M = .ok (n, c :: r) := by rw [HM.out, HNO.out, decide_eq_false hpe]; rfl
            subst hMe
            go_wp2_with fail
            go_ret
            exact ⟨HK2.out, _, rfl, rfl, HQ2.out.toS⟩
        by_cases hz : (decide (p = p0)) = false ∧ n = 0
        · have hno := digB_no (most := most) (c := c) (r := r) (n := n) (first := decide (p = p0)) (.inr (.inr (.inl hz)))
          have HNO := Lib.hid (HMO.out.trans hno)
          obtain ⟨hz1, rfl⟩ := hz
          have hpe : ¬ p = p0 := of_decide_eq_false hz1
          have hpg : p0 < p := by omega
          clear hno hz1
          have hMe : M = .ok (0, c :: r) := by rw [HM.out, HNO.out, decide_eq_false hpe]; rfl
          subst hMe
          go_wp2_with fail
          go_ret
          exact ⟨HK2.out, _, rfl, rfl, HQ2.out.toS⟩
        obtain ⟨d, hd⟩ : ∃ d, d = k - 48 := ⟨_, rfl⟩
        have hd9 : d ≤ 9 := by omega
        have hkd : (k : Int) - 48 = (d : Int) := by omega
        obtain ⟨q10, hq10⟩ : ∃ q, q = (most - d) / 10 := ⟨_, rfl⟩
        have h10 : ((most : Int) - (d : Int)).tdiv 10 = (q10 : Int) := by
          rw [show (most : Int) - (d : Int) = ((most - d : Nat) : Int) by omega, hq10]; rfl
        have hq10b : q10 ≤ 1844674407370955161 := by omega
        have HQ10 := Lib.hid hq10
        have hdm : ¬ most < d := by omega
        clear hq10
        by_cases hov : most < n * 10 + d
        · have hno := digB_no (most := most) (c := c) (r := r) (n := n) (first := decide (p = p0)) (.inr (.inr (.inr (by rw [← HKK.out, ← hd]; exact hov))))
          have HNO := Lib.hid (HMO.out.trans hno)
          clear hno
          have HD := Lib.hid hd
          clear hd
          have hq1 : q10 < n := by have := HQ10.out; omega
          clear hov
          by_cases hpe : p = p0
          · subst hpe
            have hMe : M = .error (r.length + 1, false) := by rw [HM.out, HNO.out, decide_eq_true rfl]; rfl
            subst hMe
            have HF := Lib.hid (rfail g B (.ok (c :: r)) w2 HQ2.out.toS HBL.out)
            (try clear hz)
            go_wp2_with fail
            refine HF.out.mono ?_
            rintro e w3 ⟨⟨u, rfl⟩, hk3, hs3⟩
            have HK3 := Lib.hid (HK2.out.trans hk3)
            have HS3 := Lib.hid hs3
            clear hk3 hs3
            go_wp2_with fail
            go_ret
            exact ⟨HK3.out, _, rfl, ⟨n, rfl, hn⟩, HS3.out⟩
          · have hn0 : ¬ n = 0 := fun h0 => hz ⟨decide_eq_false hpe, h0⟩
            have hn0b : ((n : Int) == 0) = false := by rw [natb]; exact decide_eq_false hn0
            clear hz
            have hpg : p0 < p := by omega
            have hMe : M = .ok (n, c :: r) := by rw [HM.out, HNO.out, decide_eq_false hpe]; rfl
            subst hMe
            go_wp2_with fail
            go_ret
            exact ⟨HK2.out, _, rfl, rfl, HQ2.out.toS⟩
        · have hyes := digB_yes (most := most) (c := c) (r := r) (n := n) (first := decide (p = p0)) (by
            rintro (h | h | h | h)
            · exact h48 (HC48.out.1 h)
            · exact h57 (HC57.out.1 h)
            · exact hz h
            · rw [← HKK.out, ← hd] at h; exact hov h)
          rw [← HKK.out, ← hd] at hyes
          have HYES := Lib.hid (HMO.out.trans hyes)
          clear hyes
          have HD := Lib.hid hd
          clear hd
          have hq1 : ¬ q10 < n := by have := HQ10.out; omega
          have hn10 : n * 10 + d ≤ most := by omega
          have hst := HQ2.out.step
          have HST := Lib.hid hst.1
          have HKS := Lib.hid (HK2.out.trans hst.2)
          clear hst
          by_cases hpe : p = p0
          · subst hpe
            clear hz
            go_wp2_with fail
            go_roundw
            case rel => exact ⟨n * 10 + d, r, p + 1, by go_num, by omega, HKS.out, HST.out, by omega, by rw [HYES.out, decide_eq_false (by omega)]⟩
            case measure => rw [HST.out.pos, HPW.out]; have := HRL.out; simp at this; omega
          · have hn0 : ¬ n = 0 := fun h0 => hz ⟨decide_eq_false hpe, h0⟩
            have hn0b : ((n : Int) == 0) = false := by rw [natb]; exact decide_eq_false hn0
            have hpg : p0 < p := by omega
            clear hz
            go_wp2_with fail
            go_roundw
            case rel => exact ⟨n * 10 + d, r, p + 1, by go_num, by omega, HKS.out, HST.out, by omega, by rw [HYES.out, decide_eq_false (by omega)]⟩
            case measure => rw [HST.out.pos, HPW.out]; have := HRL.out; simp at this; omega
end Go.Proofs.YtpekeilpdbdnnaaDoor
