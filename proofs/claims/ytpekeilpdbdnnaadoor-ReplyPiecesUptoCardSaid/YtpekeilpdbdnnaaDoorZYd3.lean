/- Merged: The reader, by the program: the byte that comes, faults, some bytes; The reader, by the program: some bytes, one by one; The reader, by the program: digits. -/
import Derived.Test.YtpekeilpdbdnnaaDoorZYp6
set_option linter.all false
namespace Go.Proofs.YtpekeilpdbdnnaaDoor
open Go.RowKit
attribute [local go_sem] fold_part fold_some fold_some' partAt_zero

def faultV (at' : Nat) (code : Int) : Value := .iface 52 (.agg #[.int .i64 at', .int .i64 code])
def snapF (at' : Nat) (code : Int) : List PanicEntry := [{ v := faultV at' code, recovered := false }]
/-- Where a fault stands, and its number. -/
def fltAt (B : Bs) (e : Flt) : Nat := B.length - e.1
def fltNo (e : Flt) : Int := if e.2 then 31 else 30

/-- A reader at g over B, with what is left. -/
def RdS (w : World) (g : Nat) (B l : Bs) : Prop := ∃ (v : Value) (p : Nat), w.heap[g]? = some (.cells #[v, .int .i64 p] 58 (0, 0)) ∧ BytesV w v B ∧ (∀ b, vblk v = some b → b < g) ∧ p ≤ B.length ∧ l = B.drop p
theorem RdS.lt {w : World} {g : Nat} {B l : Bs} (h : RdS w g B l) : g < w.heap.size := by
  obtain ⟨v, p, hg, _⟩ := h; exact lt_of_heap hg
theorem RdS.keptS {S : Nat → Prop} {w w' : World} {g : Nat} {B l : Bs} (h : RdS w g B l) (hk : Kept S w w') (hS : ∀ i, i ≤ g → ¬ S i) : RdS w' g B l := by
  obtain ⟨v, p, hg, hv, h1, h2⟩ := h; exact ⟨v, p, hk.heap hg (hS g (Nat.le_refl _)), hv.kept hk (fun b e => hS b (Nat.le_of_lt (h1 b e))), h1, h2⟩
theorem RdS.kept {w w' : World} {g : Nat} {B l : Bs} (h : RdS w g B l) (hk : Kept NoBlock w w') : RdS w' g B l := h.keptS hk (fun _ _ h => h)
theorem RdS.le {w : World} {g : Nat} {B l : Bs} (h : RdS w g B l) : l.length ≤ B.length := by
  obtain ⟨v, p, _, _, _, _, rfl⟩ := h
  rw [List.length_drop]; omega

/-- Nothing but the reader has turned. -/
def KG (g : Nat) (w w' : World) : Prop := Kept (fun k => k = g) w w'
theorem Kept.kg {w w' : World} (h : Kept NoBlock w w') (g : Nat) : KG g w w' := h.anyS
theorem KG.trans {g : Nat} {w w' w'' : World} (h : KG g w w') (h' : KG g w' w'') : KG g w w'' := Kept.trans h h'
theorem KG.heap {g : Nat} {w w' : World} (h : KG g w w') {k : Nat} {o : Obj} (hk : w.heap[k]? = some o) (hg : ¬ (k = g)) : w'.heap[k]? = some o := Kept.heap h hk hg
theorem kg_set {w : World} (g i : Nat) (v : Value) : KG g w (w.setCell ⟨g, i, none⟩ v) := Kept.setCell (S := fun k => k = g) (p := ⟨g, i, none⟩) (Kept.refl _ w) (fun _ => rfl) _
theorem blk2' {w : World} {g : Nat} {a b : Value} {T : TypeId} (h : w.heap[g]? = some (.cells #[a, b] T (0, 0))) :
    w.cell? ⟨g, 0, none⟩ = some a ∧ w.cell? ⟨g, 1, none⟩ = some b ∧ w.frozen? ⟨g, 0, none⟩ = false ∧ w.frozen? ⟨g, 1, none⟩ = false := ⟨cellB h rfl, cellB h rfl, frozenB h 0, frozenB h 1⟩

/-- How a call on the reader ends: by the model's word. -/
def EndS {α : Type} (g : Nat) (B : Bs) (M : Except Flt (α × Bs)) (ret : α → Value → World → Prop) (w : World) (e : Ending) (w' : World) : Prop :=
  KG g w w' ∧ match M with
  | .error f => e = .panicked (snapF (fltAt B f) (fltNo f))
  | .ok (a, r) => ∃ v, e = .returned v ∧ ret a v w' ∧ RdS w' g B r
def retNo (_ : Unit) (_ : Value) (_ : World) : Prop := True
def retU (n : Nat) (v : Value) (_ : World) : Prop := v = .int .u64 n
def retI (n : Int) (v : Value) (_ : World) : Prop := v = .int .i64 n
def retT (s : Bs) (v : Value) (_ : World) : Prop := v = strV s
def retC (o : Option Nat) (v : Value) (_ : World) : Prop := v = .int .i64 (match o with | none => -1 | some n => (n : Int))

/-- A step on. -/
theorem RdS.next {w : World} {g : Nat} {B : Bs} {v : Value} {p : Nat} (hg : w.heap[g]? = some (.cells #[v, .int .i64 p] 58 (0, 0))) (hb : BytesV w v B) (hbl : ∀ b, vblk v = some b → b < g) (hp : p ≤ B.length) (k : Nat) (hk : p + k ≤ B.length) :
    RdS (w.setCell ⟨g, 1, none⟩ (.int .i64 (p + k : Nat))) g B (B.drop (p + k)) := by
  have hkg := kg_set (w := w) g 1 (.int .i64 (p + k : Nat))
  exact ⟨v, p + k, heap_setCell_same hg 1 _, hb.kept hkg (fun b e h => by have := hbl b e; omega), hbl, hk, rfl⟩

theorem drop_cons {α : Type} {B : List α} {p : Nat} {c : α} {r : List α} (h : B.drop p = c :: r) : p < B.length ∧ r = B.drop (p + 1) := by
  have hp : p < B.length := by
    rcases Nat.lt_or_ge p B.length with h1 | h1
    · exact h1
    · rw [List.drop_of_length_le h1] at h; cases h
  rw [List.drop_eq_getElem_cons hp] at h
  exact ⟨hp, (List.cons.inj h).2.symm⟩
theorem RdS.step {w : World} {g : Nat} {B r : Bs} {c : UInt8} (h : RdS w g B (c :: r)) (hl : B.length ≤ 1000000000) :
    ∃ p : Nat, w.cell? ⟨g, 1, none⟩ = some (.int .i64 p) ∧ w.frozen? ⟨g, 1, none⟩ = false ∧ p ≤ 1000000000 ∧ RdS (w.setCell ⟨g, 1, none⟩ (.int .i64 ((p : Int) + 1))) g B r ∧ KG g w (w.setCell ⟨g, 1, none⟩ (.int .i64 ((p : Int) + 1))) := by
  obtain ⟨v, p, hg, hb, hbl, hp, hq⟩ := h
  obtain ⟨hp1, hr⟩ := drop_cons hq.symm
  obtain ⟨c0, c1, f0, f1⟩ := blk2' hg
  have hnext := RdS.next hg hb hbl hp 1 (by omega)
  rw [← hr, show (((p + 1 : Nat) : Int)) = (p : Int) + 1 by omega] at hnext
  exact ⟨p, c1, f1, by omega, hnext, kg_set g 1 _⟩
def nextP (B : Bs) : Bs → Ending → Prop
  | [], e => e = .panicked (snapF B.length 31)
  | c :: _, e => e = .returned (.int .u8 c.toNat)
set_option maxRecDepth 100000 in
theorem pnext (g : Nat) (B l : Bs) (w : World) (h : RdS w g B l) (hl : B.length ≤ 1000000000) :
    Calls Tryd.prog 32 #[.pointer (some ⟨g, 0, none⟩)] w fun e w' => Kept NoBlock w w' ∧ nextP B l e := by
  obtain ⟨v, p, hg, hb, hbl, hp, rfl⟩ := h
  obtain ⟨ap, cap, rfl, hc, hnil⟩ := hb.parts
  obtain ⟨c0, c1, f0, f1⟩ := blk2' hg
  obtain ⟨n, hn⟩ : ∃ n, n = B.length := ⟨_, rfl⟩
  rw [← hn] at c0 hp hl hc
  by_cases hlt : p < n
  · obtain ⟨c, hcc⟩ : ∃ c, B[p]? = some c := ⟨B[p]'(by omega), List.getElem?_eq_getElem _⟩
    have hd : B.drop p = c :: B.drop (p + 1) := by
      obtain ⟨h1, h2⟩ := List.getElem?_eq_some_iff.1 hcc
      rw [List.drop_eq_getElem_cons h1, h2]
    rw [hd]
    rw [← hn] at hb
    obtain ⟨ad, rfl, a0⟩ := RowV.cell hb (i := p) (v := bv c) (by rw [List.getElem?_map, hcc]; rfl)
    unfold bv at a0
    have hdec : decide ((n : Int) ≤ (p : Int)) = false := decide_eq_false (by omega)
    clear hd hcc hb hg hbl hn
    go_enter Tryd.func32, Tryd.ntmps32
    go_wp2_with fail
    go_quiet (fail)
    go_wp2_with fail
    go_quiet (fail)
    go_wp2_with fail
    go_ret
    exact ⟨((Kept.refl NoBlock w).drewN _).drewN _, rfl⟩
  · obtain rfl : p = n := by omega
    rw [hn, List.drop_length]
    unfold nextP
    rw [← hn]
    clear hb hg hbl hn hlt
    go_enter Tryd.func32, Tryd.ntmps32
    go_wp2_with fail
    go_quiet (fail)
    go_wp2_with fail
    exact ⟨rfl, (Kept.refl NoBlock w).drewN _, rfl⟩
set_option maxRecDepth 100000 in
theorem pwrong (g : Nat) (B l : Bs) (w : World) (h : RdS w g B l) :
    Calls Tryd.prog 38 #[.pointer (some ⟨g, 0, none⟩)] w fun e w' => e = .panicked (snapF (B.length - l.length) 30) ∧ w' = w := by
  obtain ⟨v, p, hg, hb, hbl, hp, rfl⟩ := h
  obtain ⟨c0, c1, f0, f1⟩ := blk2' hg
  have hpp : B.length - (B.drop p).length = p := by rw [List.length_drop]; omega
  rw [hpp]
  clear hb hg hbl hp hpp
  go_enter Tryd.func38, Tryd.ntmps38
  go_wp2_with fail
  exact ⟨rfl, rfl, rfl⟩
end Go.Proofs.YtpekeilpdbdnnaaDoor
namespace Go.Proofs.YtpekeilpdbdnnaaDoor
open Go.RowKit
attribute [local go_sem] fold_part fold_some fold_some' partAt_zero

def mustsB : Bs → Bs → Except Flt Bs
  | [], t => .ok t
  | c :: s, t => match mustB c t with | .ok r => mustsB s r | .error e => .error e
theorem musts_end (t : Bs) : mustsB [13, 10] t = endB t := by
  unfold endB
  rw [mustsB]
  cases mustB 13 t with
  | error e => rfl
  | ok r =>
    simp only [mustsB]
    cases mustB 10 r <;> rfl
set_option maxRecDepth 100000 in
set_option maxHeartbeats 1600000 in
theorem pmust (g : Nat) (B l s : Bs) (w : World) (h : RdS w g B l) (hl : B.length ≤ 1000000000) (hs : s.length ≤ 1000) :
    Calls Tryd.prog 35 #[.pointer (some ⟨g, 0, none⟩), strV s] w (EndS g B (unitB (mustsB s) l) retNo w) := by
  obtain ⟨S, hS⟩ : ∃ S : ByteArray, S = ⟨s.toArray⟩ := ⟨_, rfl⟩
  have hSz := str_size hS
  unfold strV
  rw [← hS]
  obtain ⟨M, hM⟩ : ∃ M, M = unitB (mustsB s) l := ⟨_, rfl⟩
  rw [← hM]
  obtain ⟨n, hn⟩ : ∃ n, n = S.size := ⟨_, rfl⟩
  have hns : n = s.length := hn.trans hSz
  have hn1 : n ≤ 1000 := by omega
  have HS := Lib.hid hS
  have HM := Lib.hid hM
  have HN := Lib.hid hn
  have HNS := Lib.hid hns
  have HR := Lib.hid h
  have HBL := Lib.hid hl
  clear hS hM hSz h hs hns hn hl
  go_enter Tryd.func35, Tryd.ntmps35
  go_wp2_with fail
  rw [← HN.out]
  go_loopw [7] (fun vi wr => ∃ i : Nat, vi = .int .i64 i ∧ i ≤ n ∧ KG g w wr ∧ ∃ q, RdS wr g B q ∧ mustsB s l = mustsB (s.drop i) q) (fun vi _ => n - (intOf vi).toNat)
  case atStart => exact ⟨0, rfl, Nat.zero_le _, (Kept.refl _ _).kg g, l, HR.out, rfl⟩
  case round =>
    obtain ⟨i, rfl, hi, hk, q, hr, hm⟩ := hrel
    have HK := Lib.hid hk
    have HQ := Lib.hid hr
    have HME := Lib.hid hm
    clear hk hr hm
    by_cases hlt : i < n
    · obtain ⟨c, hc⟩ : ∃ c, s[i]? = some c := ⟨s[i]'(by have := HNS.out; omega), List.getElem?_eq_getElem _⟩
      have hsd : s.drop i = c :: s.drop (i + 1) := by
        obtain ⟨h1, h2⟩ := List.getElem?_eq_some_iff.1 hc
        rw [List.drop_eq_getElem_cons h1, h2]
      obtain ⟨hiS, hci⟩ := str_at HS.out hc
      have hiI : (i : Int) < (S.size : Int) := by omega
      have HSD := Lib.hid hsd
      clear hc hsd
      have HNX := Lib.hid (fun n0 => pnext g B q (wr.drewN n0) (HQ.out.kept ((Kept.refl NoBlock wr).drewN n0)) HBL.out)
      go_wp2_with fail
      refine wp_planC (fun _ => True) 6 [.flt 2, .flt 3, .flt 4, .seg [0] 1] [5] (by kernel_rfl) (by kernel_rfl) (fun _ _ _ dst _ h => by cases dst <;> exact h) (fun _ _ h => h) trivial (fun n0 => ?_)
      repeat (refine planC_flt rfl rfl ?_; apply Exists.intro; refine ⟨fun w' hw' => ?_, ?_⟩; (go_simp; first | rfl | exact ⟨rfl, rfl⟩); simp only [Act.put, List.setIfInBounds_toArray, List.set_cons_succ, List.set_cons_zero])
      simp only [wpPlanC, pick, List.filterMap_cons, List.filterMap_nil, List.getElem?_cons_succ, List.getElem?_cons_zero]
      repeat (quiet_step (fail))
      refine wpQuiet_nil ?_
      rintro _ ⟨n1, rfl⟩
      go_wp2_with fail
      refine (HNX.out _).mono ?_
      rintro e w2 ⟨hk2, he⟩
      have HK2 := Lib.hid (HK.out.trans (((Kept.refl NoBlock wr).drewN (n0 + n1)).trans hk2 |>.kg g))
      have HR2 := Lib.hid ((HQ.out.kept ((Kept.refl NoBlock wr).drewN (n0 + n1))).kept hk2)
      clear hk2 HNX
      cases q with
      | nil =>
        obtain rfl : e = .panicked (snapF B.length 31) := he
        have hMe : M = .error (0, true) := by
          rw [HM.out]; unfold unitB; rw [HME.out, HSD.out]; rfl
        subst hMe
        exact ⟨rfl, HK2.out, rfl⟩
      | cons d r =>
        obtain rfl : e = .returned (.int .u8 d.toNat) := he
        by_cases hdc : d = c
        · have hMM : mustsB s l = mustsB (s.drop (i + 1)) r := by rw [HME.out, HSD.out, mustsB, mustB, if_pos hdc]
          have HMM := Lib.hid hMM
          clear hMM
          obtain rfl := hdc
          go_wp2_with fail
          refine Halt.mk ⟨.inr trivial, ?_⟩
          repeat (quiet_step (fail))
          refine wpQuiet_nil ?_
          rintro _ ⟨n2, rfl⟩
          obtain ⟨p, c1, f1, hp9, hnext, hkg⟩ := (HR2.out.kept ((Kept.refl NoBlock w2).drewN n2)).step HBL.out
          have HN2 := Lib.hid hnext
          have HK3 := Lib.hid ((HK2.out.trans (((Kept.refl NoBlock w2).drewN n2).kg g)).trans hkg)
          generalize w2.drewN n2 = w3 at *
          clear hnext hkg HR2 HK2
          go_wp2_with fail
          go_roundw
          case rel => exact ⟨i + 1, by go_num, by omega, HK3.out, r, HN2.out, HMM.out⟩
          case measure => simp [intOf]; omega
        · have hMe : M = .error (r.length + 1, false) := by
            rw [HM.out]; unfold unitB; rw [HME.out, HSD.out, mustsB, mustB, if_neg hdc]
          subst hMe
          have hcd : ¬ ((d.toNat : Int) = (c.toNat : Int)) := u8_neI hdc
          clear hdc
          go_wp2_with fail
          refine Halt.mk ⟨.inr trivial, ?_⟩
          repeat (quiet_step (fail))
          refine wpQuiet_nil ?_
          rintro _ ⟨n2, rfl⟩
          have HW := Lib.hid (pwrong g B (d :: r) (w2.drewN n2) (HR2.out.kept ((Kept.refl NoBlock w2).drewN n2)))
          have HK3 := Lib.hid (HK2.out.trans (((Kept.refl NoBlock w2).drewN n2).kg g))
          generalize w2.drewN n2 = w3 at *
          go_wp2_with fail
          refine HW.out.mono ?_
          rintro e w4 ⟨rfl, rfl⟩
          exact ⟨rfl, HK3.out, rfl⟩
    · obtain rfl : i = n := by omega
      have hMe : M = .ok ((), q) := by
        rw [HM.out]; unfold unitB; rw [HME.out, List.drop_of_length_le (by have := HNS.out; omega)]; rfl
      subst hMe
      go_wp2_with fail
      refine bodyPost_end (results_none rfl _ _ _) rfl ⟨HK.out, _, rfl, trivial, HQ.out⟩
end Go.Proofs.YtpekeilpdbdnnaaDoor
namespace Go.Proofs.YtpekeilpdbdnnaaDoor
open Go.RowKit
attribute [local go_sem] fold_part fold_some fold_some' partAt_zero

/-- A reader that stands at p. -/
def RdP (w : World) (g : Nat) (B : Bs) (p : Nat) (l : Bs) : Prop := ∃ v : Value, w.heap[g]? = some (.cells #[v, .int .i64 p] 58 (0, 0)) ∧ BytesV w v B ∧ (∀ b, vblk v = some b → b < g) ∧ p ≤ B.length ∧ l = B.drop p
theorem RdS.toP {w : World} {g : Nat} {B l : Bs} (h : RdS w g B l) : ∃ p, RdP w g B p l := by
  obtain ⟨v, p, h⟩ := h; exact ⟨p, v, h⟩
theorem RdP.toS {w : World} {g : Nat} {B l : Bs} {p : Nat} (h : RdP w g B p l) : RdS w g B l := by
  obtain ⟨v, h⟩ := h; exact ⟨v, p, h⟩
theorem RdP.kept {w w' : World} {g : Nat} {B l : Bs} {p : Nat} (h : RdP w g B p l) (hk : Kept NoBlock w w') : RdP w' g B p l := by
  obtain ⟨v, hg, hv, h1, h2⟩ := h
  exact ⟨v, hk.heap hg (fun h => h), hv.keptNo hk, h1, h2⟩
theorem RdP.cell {w : World} {g : Nat} {B l : Bs} {p : Nat} (h : RdP w g B p l) : w.cell? ⟨g, 1, none⟩ = some (.int .i64 p) ∧ w.frozen? ⟨g, 1, none⟩ = false := by
  obtain ⟨v, hg, _⟩ := h
  exact ⟨cellB hg rfl, frozenB hg 1⟩
theorem RdP.le {w : World} {g : Nat} {B l : Bs} {p : Nat} (h : RdP w g B p l) : p ≤ B.length ∧ l.length = B.length - p := by
  obtain ⟨v, _, _, _, h1, rfl⟩ := h
  exact ⟨h1, List.length_drop ..⟩
theorem RdP.step {w : World} {g : Nat} {B r : Bs} {p : Nat} {c : UInt8} (h : RdP w g B p (c :: r)) : RdP (w.setCell ⟨g, 1, none⟩ (.int .i64 ((p : Int) + 1))) g B (p + 1) r ∧ KG g w (w.setCell ⟨g, 1, none⟩ (.int .i64 ((p : Int) + 1))) := by
  obtain ⟨v, hg, hb, hbl, hp, hq⟩ := h
  obtain ⟨hp1, hr⟩ := drop_cons hq.symm
  have hkg := kg_set (w := w) g 1 (.int .i64 ((p : Int) + 1))
  refine ⟨⟨v, heap_setCell_same hg 1 _, hb.kept hkg (fun b e h => by have := hbl b e; omega), hbl, hp1, hr⟩, hkg⟩
/-- Where the reader at g stands. -/
def posW (w : World) (g : Nat) : Nat := match w.cell? ⟨g, 1, none⟩ with
  | some (.int _ p) => p.toNat
  | _ => 0
theorem RdP.pos {w : World} {g : Nat} {B l : Bs} {p : Nat} (h : RdP w g B p l) : posW w g = p := by
  unfold posW
  rw [h.cell.1]
  rfl

theorem digB_no {most : Nat} {c : UInt8} {r : Bs} {n : Nat} {first : Bool} (h : c < 48 ∨ 57 < c ∨ (first = false ∧ n = 0) ∨ most < n * 10 + (c.toNat - 48)) : digB most (c :: r) n first = if first then .error (r.length + 1, false) else .ok (n, c :: r) := by
  rw [digB, if_pos h]
theorem digB_yes {most : Nat} {c : UInt8} {r : Bs} {n : Nat} {first : Bool} (h : ¬ (c < 48 ∨ 57 < c ∨ (first = false ∧ n = 0) ∨ most < n * 10 + (c.toNat - 48))) : digB most (c :: r) n first = digB most r (n * 10 + (c.toNat - 48)) false := by
  rw [digB, if_neg h]

set_option maxRecDepth 100000 in
set_option maxHeartbeats 3200000 in
theorem pnumber (g : Nat) (B l : Bs) (most : Nat) (w : World) (h : RdS w g B l) (hl : B.length ≤ 1000000000) (hm9 : 9 ≤ most) (hm : most < 18446744073709551616) :
    Calls Tryd.prog 56 #[.pointer (some ⟨g, 0, none⟩), .int .u64 most] w (EndS g B (numbB most l) retU w) := by
  obtain ⟨p0, h⟩ := h.toP
  obtain ⟨c1, f1⟩ := h.cell
  obtain ⟨hp0, _⟩ := h.le
  obtain ⟨M, hM⟩ : ∃ M, M = numbB most l := ⟨_, rfl⟩
  rw [← hM]
  obtain ⟨q10, hq10⟩ : ∃ q, q = most / 10 := ⟨_, rfl⟩
  have h10 : (most : Int).tdiv 10 = (q10 : Int) := by rw [hq10]; rfl
  have hq10b : q10 ≤ 1844674407370955161 := by omega
  have HM := Lib.hid hM
  have HR := Lib.hid h
  have HBL := Lib.hid hl
  have hp09 : p0 ≤ 1000000000 := by omega
  have HQ10 := Lib.hid hq10
  clear hM h hl hq10 hp0
  go_enter Tryd.func56, Tryd.ntmps56
  go_wp2_with fail
  go_quiet (fail)
  clear c1 f1
  go_wp2_with fail
  go_loopw [5] (fun v5 wr => ∃ (n : Nat) (q : Bs) (p : Nat), v5 = .int .u64 n ∧ n ≤ most ∧ KG g w wr ∧ RdP wr g B p q ∧ p0 ≤ p ∧ numbB most l = digB most q n (decide (p = p0))) (fun _ wr => B.length - posW wr g)
  case atStart => exact ⟨0, l, p0, rfl, Nat.zero_le _, ((Kept.refl NoBlock w).drewN _).kg g, HR.out.kept ((Kept.refl NoBlock w).drewN _), Nat.le_refl _, by unfold numbB; rw [decide_eq_true rfl]⟩
  case round =>
    obtain ⟨n, q, p, rfl, hn, hk, hq, hpp, hmod⟩ := hrel
    obtain ⟨hpB, hqlen⟩ := hq.le
    have hp9 : p ≤ 1000000000 := by have := HBL.out; omega
    have HNX := Lib.hid (pnext g B q wr hq.toS HBL.out)
    have HK := Lib.hid hk
    have HQ := Lib.hid hq
    have HMO := Lib.hid hmod
    clear hk hq hmod hpB hqlen
    go_wp2_with fail
    refine HNX.out.mono ?_
    rintro e w2 ⟨hk2, he⟩
    have HK2 := Lib.hid (HK.out.trans (hk2.kg g))
    have HQ2 := Lib.hid (HQ.out.kept hk2)
    have HPW := Lib.hid HQ.out.pos
    clear hk2 HNX
    cases q with
    | nil =>
      obtain rfl : e = .panicked (snapF B.length 31) := he
      have hMe : M = .error (0, true) := by rw [HM.out, HMO.out]; rw [digB]
      subst hMe
      exact ⟨rfl, HK2.out, rfl⟩
    | cons c r =>
      obtain rfl : e = .returned (.int .u8 c.toNat) := he
      obtain ⟨c1, f1⟩ := HQ2.out.cell
      have hrl := HQ2.out.le
      have HRL := Lib.hid hrl
      clear hrl
      obtain ⟨k, hk⟩ : ∃ k, k = c.toNat := ⟨_, rfl⟩
      rw [← hk]
      have hk256 : k < 256 := by rw [hk]; exact UInt8.toNat_lt c
      have HKK := Lib.hid hk
      clear hk
      have hc48 : c < 48 ↔ k < 48 := by rw [HKK.out, UInt8.lt_iff_toNat_lt]; exact Iff.rfl
      have hc57 : 57 < c ↔ 57 < k := by rw [HKK.out, UInt8.lt_iff_toNat_lt]; exact Iff.rfl
      have HC48 := Lib.hid hc48
      have HC57 := Lib.hid hc57
      clear hc48 hc57
      by_cases h48 : k < 48
      · have hno := digB_no (most := most) (c := c) (r := r) (n := n) (first := decide (p = p0)) (.inl (HC48.out.2 h48))
        have HNO := Lib.hid (HMO.out.trans hno)
        clear hno
        by_cases hpe : p = p0
        · subst hpe
          have hMe : M = .error (r.length + 1, false) := by rw [HM.out, HNO.out, decide_eq_true rfl]; rfl
          subst hMe
          have HW := Lib.hid (pwrong g B (c :: r) w2 HQ2.out.toS)
          (try clear hz)
          go_wp2_with fail
          refine HW.out.mono ?_
          rintro e w4 ⟨rfl, rfl⟩
          exact ⟨rfl, HK2.out, rfl⟩
        · skip
          have hpg : p0 < p := by omega
          have hMe : M = .ok (n, c :: r) := by rw [HM.out, HNO.out, decide_eq_false hpe]; rfl
          subst hMe
          go_wp2_with fail
          go_ret
          exact ⟨HK2.out, _, rfl, rfl, HQ2.out.toS⟩
      by_cases h57 : 57 < k
      · have hno := digB_no (most := most) (c := c) (r := r) (n := n) (first := decide (p = p0)) (.inr (.inl (HC57.out.2 h57)))
        have HNO := Lib.hid (HMO.out.trans hno)
        clear hno
        by_cases hpe : p = p0
        · subst hpe
          have hMe : M = .error (r.length + 1, false) := by rw [HM.out, HNO.out, decide_eq_true rfl]; rfl
          subst hMe
          have HW := Lib.hid (pwrong g B (c :: r) w2 HQ2.out.toS)
          (try clear hz)
          go_wp2_with fail
          refine HW.out.mono ?_
          rintro e w4 ⟨rfl, rfl⟩
          exact ⟨rfl, HK2.out, rfl⟩
        · skip
          have hpg : p0 < p := by omega
          have hMe : M = .ok (n, c :: r) := by rw [HM.out, HNO.out, decide_eq_false hpe]; rfl
          subst hMe
          go_wp2_with fail
          go_ret
          exact ⟨HK2.out, _, rfl, rfl, HQ2.out.toS⟩
      by_cases hz : (decide (p = p0)) = false ∧ n = 0
      · have hno := digB_no (most := most) (c := c) (r := r) (n := n) (first := decide (p = p0)) (.inr (.inr (.inl hz)))
        have HNO := Lib.hid (HMO.out.trans hno)
        obtain ⟨hz1, rfl⟩ := hz
        have hpe : ¬ p = p0 := of_decide_eq_false hz1
        have hpg : p0 < p := by omega
        clear hno hz1
        have hMe : M = .ok (0, c :: r) := by rw [HM.out, HNO.out, decide_eq_false hpe]; rfl
        subst hMe
        go_wp2_with fail
        go_ret
        exact ⟨HK2.out, _, rfl, rfl, HQ2.out.toS⟩
      obtain ⟨d, hd⟩ : ∃ d, d = k - 48 := ⟨_, rfl⟩
      have hd9 : d ≤ 9 := by omega
      have hkd : (k : Int) - 48 = (d : Int) := by omega
      by_cases hov : most < n * 10 + d
      · have hno := digB_no (most := most) (c := c) (r := r) (n := n) (first := decide (p = p0)) (.inr (.inr (.inr (by rw [← HKK.out, ← hd]; exact hov))))
        have HNO := Lib.hid (HMO.out.trans hno)
        clear hno
        have HD := Lib.hid hd
        clear hd
        by_cases hq1 : q10 < n
        · by_cases hpe : p = p0
          · subst hpe
            have hMe : M = .error (r.length + 1, false) := by rw [HM.out, HNO.out, decide_eq_true rfl]; rfl
            subst hMe
            have HW := Lib.hid (pwrong g B (c :: r) w2 HQ2.out.toS)
            (try clear hz)
            go_wp2_with fail
            refine HW.out.mono ?_
            rintro e w4 ⟨rfl, rfl⟩
            exact ⟨rfl, HK2.out, rfl⟩
          · have hn0 : ¬ n = 0 := fun h0 => hz ⟨decide_eq_false hpe, h0⟩
            have hn0b : ((n : Int) == 0) = false := by rw [natb]; exact decide_eq_false hn0
            have hpg : p0 < p := by omega
            clear hz
            have hMe : M = .ok (n, c :: r) := by rw [HM.out, HNO.out, decide_eq_false hpe]; rfl
            subst hMe
            go_wp2_with fail
            go_ret
            exact ⟨HK2.out, _, rfl, rfl, HQ2.out.toS⟩
        · have hn10 : n * 10 ≤ most := by have := HQ10.out; omega
          have hov2 : (most : Int) - (d : Int) < (n : Int) * 10 := by omega
          by_cases hpe : p = p0
          · subst hpe
            have hMe : M = .error (r.length + 1, false) := by rw [HM.out, HNO.out, decide_eq_true rfl]; rfl
            subst hMe
            have HW := Lib.hid (pwrong g B (c :: r) w2 HQ2.out.toS)
            (try clear hz)
            go_wp2_with fail
            refine HW.out.mono ?_
            rintro e w4 ⟨rfl, rfl⟩
            exact ⟨rfl, HK2.out, rfl⟩
          · have hn0 : ¬ n = 0 := fun h0 => hz ⟨decide_eq_false hpe, h0⟩
            have hn0b : ((n : Int) == 0) = false := by rw [natb]; exact decide_eq_false hn0
            have hpg : p0 < p := by omega
            clear hz
            have hMe : M = .ok (n, c :: r) := by rw [HM.out, HNO.out, decide_eq_false hpe]; rfl
            subst hMe
            go_wp2_with fail
            go_ret
            exact ⟨HK2.out, _, rfl, rfl, HQ2.out.toS⟩
      · have hyes := digB_yes (most := most) (c := c) (r := r) (n := n) (first := decide (p = p0)) (by
          rintro (h | h | h | h)
          · exact h48 (HC48.out.1 h)
          · exact h57 (HC57.out.1 h)
          · exact hz h
          · rw [← HKK.out, ← hd] at h; exact hov h)
        rw [← HKK.out, ← hd] at hyes
        have HYES := Lib.hid (HMO.out.trans hyes)
        clear hyes
        have HD := Lib.hid hd
        clear hd
        have hq1 : ¬ q10 < n := by have := HQ10.out; omega
        have hn10 : n * 10 ≤ most := by omega
        have hov2 : ¬ ((most : Int) - (d : Int) < (n : Int) * 10) := by omega
        have hst := HQ2.out.step
        have HST := Lib.hid hst.1
        have HKS := Lib.hid (HK2.out.trans hst.2)
        clear hst
        by_cases hpe : p = p0
        · subst hpe
          clear hz
          go_wp2_with fail
          go_roundw
          case rel => exact ⟨n * 10 + d, r, p + 1, by go_num, by omega, HKS.out, HST.out, by omega, by rw [HYES.out, decide_eq_false (by omega)]⟩
          case measure => rw [HST.out.pos, HPW.out]; have := HRL.out; simp at this; omega
        · have hn0 : ¬ n = 0 := fun h0 => hz ⟨decide_eq_false hpe, h0⟩
          have hn0b : ((n : Int) == 0) = false := by rw [natb]; exact decide_eq_false hn0
          have hpg : p0 < p := by omega
          clear hz
          go_wp2_with fail
          go_roundw
          case rel => exact ⟨n * 10 + d, r, p + 1, by go_num, by omega, HKS.out, HST.out, by omega, by rw [HYES.out, decide_eq_false (by omega)]⟩
          case measure => rw [HST.out.pos, HPW.out]; have := HRL.out; simp at this; omega
end Go.Proofs.YtpekeilpdbdnnaaDoor
