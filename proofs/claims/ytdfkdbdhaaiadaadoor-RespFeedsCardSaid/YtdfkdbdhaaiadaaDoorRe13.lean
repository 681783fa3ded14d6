/- A reader of requests: all of them, as an iterator. -/
import Derived.Test.YtdfkdbdhaaiadaaDoorRe12
import Derived.Test.YtdfkdbdhaaiadaaDoorRng
import Derived.Shelf.Abstract
import Derived.Shelf.RegionOpen
import Derived.OwnWalkIn
import Derived.TacticsInMore
import Derived.LoopNIn
import Derived.LoopIn
import Derived.Maps.AppendAt
import Derived.BigGuardPartIn
namespace Go.Proofs.YtdfkdbdhaaiadaaDoor
open Go.RowKit Go.Shelf
attribute [local go_sem] Oper.semAt_some

theorem preqs (g bb : Nat) (w : World) : Calls Tryd.prog 21 #[.pointer (some ⟨g, 0, none⟩), .pointer (some ⟨bb, 0, none⟩)] w fun e w' =>
    e = .returned (.func (.func 24) #[] #[.pointer (some ⟨w.heap.size, 0, none⟩), .pointer (some ⟨w.heap.size + 1, 0, none⟩)]) ∧
    (w.alloc (.cells #[.pointer (some ⟨g, 0, none⟩)] 53)).alloc (.cells #[.pointer (some ⟨bb, 0, none⟩)] 61) = w' := by
  go_enter Tryd.func21, Tryd.ntmps21
  go_wp2
  go_ret
  exact ⟨rfl, rfl⟩

theorem strSlInfo : (Tryd.prog.info? 48).map (fun i => (i.zero, i.size, i.bytes)) = some (some (.slice none 0 0), 1, 24) := by kernel_rfl

/-- Rows of texts: each its own, and what they are. -/
abbrev Outs := List (Value × List Bs)
def OutsAt (w : World) (base : Nat) (va : Value) (out : Outs) : Prop := w.ownsRow base 48 1 va out.length (out.map (·.1)) ∧ ∀ p ∈ out, OwnS w base p.1 p.2

/-- What was collected. -/
def Coll (ab B0 : Nat) (out : Outs) (W : World) : Prop := ∃ va, Boxed W ab 24 va ∧ OutsAt W B0 va out ∧ B0 ≤ W.heap.size

theorem ownsRow_keptR {w w' : World} {S : Nat → Prop} {base : Nat} {e : TypeId} {v : Value} {n : Nat} {xs : List Value} (h : w.ownsRow base e 1 v n xs) (hk : Kept S w w') (hS : ∀ k, base ≤ k → ¬ S k) : w'.ownsRow base e 1 v n xs := by
  refine ⟨h.1, ?_⟩
  rcases h.2 with h' | ⟨g, cap, cur, e1, e2, e3, rest⟩
  · exact .inl h'
  · exact .inr ⟨g, cap, cur, e1, e2, hk.heap e3 (hS g e2), rest⟩

theorem OutsAt.keptS {w w' : World} {S : Nat → Prop} {base : Nat} {va : Value} {out : Outs} (h : OutsAt w base va out) (hk : Kept S w w') (hS : ∀ k, base ≤ k → ¬ S k) : OutsAt w' base va out :=
  ⟨ownsRow_keptR h.1 hk hS, fun p hp => (h.2 p hp).keptS hk hS⟩

theorem Coll.keptS {w w' : World} {S : Nat → Prop} {ab B0 : Nat} {out : Outs} (h : Coll ab B0 out w) (hk : Kept S w w') (hS : ∀ k, B0 ≤ k → ¬ S k) (ha : ¬ S ab) : Coll ab B0 out w' := by
  obtain ⟨va, hb, ho, hs⟩ := h
  exact ⟨va, hk.heap hb ha, ho.keptS hk hS, Nat.le_trans hs hk.size⟩

theorem Coll.steady (ab B0 : Nat) (out : Outs) : Steady B0 (Coll ab B0 out) := by
  rintro W l o o' hl ho hc ⟨va, hb, ⟨hrow, hown⟩, hs⟩
  refine ⟨va, ?_, ⟨ownsRow_putObj hrow o' ho hc, fun p hp => ownsRow_putObj (hown p hp) o' ho hc⟩, by rw [World.putObj_size]; exact hs⟩
  refine (World.putObj_heap_other ?_).trans hb
  rintro rfl
  rw [show W.heap[ab]? = _ from hb] at ho
  cases ho; cases hc

/-- How far a reader is. -/
def usedAt (w : World) (g : Nat) : Nat := match w.cell? ⟨g, 1, none⟩ with
  | some (.int _ u) => u.toNat
  | _ => 0
theorem RdAt.used {w : World} {g : Nat} {B : Option Nat} {l : Bs} {u : Nat} (h : RdAt w g B l u) : usedAt w g = u := by
  obtain ⟨v, hg, _⟩ := h
  unfold usedAt
  rw [(blk2 hg).2.1]
  rfl

/-- What the iterator writes. -/
def Wr (g ab bb B0 : Nat) : Nat → Prop := fun k => k = g ∨ k = ab ∨ k = bb ∨ B0 ≤ k

/-- What is so when all have been told. -/
structure Told (w0 : World) (g ab bb B0 : Nat) (B : Option Nat) (b : Bs) (M : List (List Bs) × Nat × Bs) (W : World) : Prop where
  rd : RdAt W g B (b.drop M.2.1) M.2.1
  coll : ∃ out : Outs, Coll ab B0 out W ∧ out.map (·.2) = M.1
  bad : Boxed W bb 9 (strV M.2.2)
  kept : Kept (Wr g ab bb B0) w0 W

/-- The bad text is laid, behind 'first'. -/
structure Laid (g ab bb B0 : Nat) (B : Option Nat) (b : Bs) (m : Nat) (out : Outs) (Bk : World → Prop) (w0 : World) (f : Bs) (W : World) : Prop where
  bk : Bk W
  coll : Coll ab B0 out W
  rd : RdAt W g B (b.drop m) m
  bad : Boxed W bb 9 (strV f)
  kept : Kept (Wr g ab bb B0) w0 W

theorem laid_at {W0 w0 wr w2 : World} {g ab bb B0 : Nat} {B : Option Nat} {b : Bs} {m' : Nat} {out : Outs} {f : Bs} {Bk : World → Prop} (hBk : ∀ W W', Bk W → Kept (fun k => k < B0) W W' → Bk W')
    (hb : Bk wr) (hc : Coll ab B0 out wr) (hk : Kept (Wr g ab bb B0) w0 wr) (hbd : Boxed wr bb 9 (strV [])) (hBw : ∀ k, B = some k → k < W0.heap.size)
    (hg : g < B0) (hbb : bb < B0) (h1 : ab ≠ g) (h2 : bb ≠ g) (h3 : ab ≠ bb) (hWb : W0.heap.size ≤ bb) (hk2 : Kept (fun k => k = g) wr w2) (hrd : RdAt w2 g B (b.drop m') m') :
    Laid g ab bb B0 B b m' out Bk w0 f (w2.setCell ⟨bb, 0, none⟩ (strV f)) := by
  have hkk : Kept (fun k => k = g ∨ k = bb) wr (w2.setCell ⟨bb, 0, none⟩ (strV f)) := Kept.setCell (S := fun k => k = g ∨ k = bb) (hk2.mono fun _ _ h => .inl h) (p := ⟨bb, 0, none⟩) (fun _ => .inr rfl) _
  have hk3 : Kept (fun k => k = bb) w2 (w2.setCell ⟨bb, 0, none⟩ (strV f)) := Kept.setCell (S := fun k => k = bb) (Kept.refl _ _) (p := ⟨bb, 0, none⟩) (fun _ => rfl) _
  refine ⟨hBk _ _ hb (hkk.mono fun k _ h => ?_), hc.keptS hkk (fun k hk h => ?_) (fun h => ?_), hrd.keptS hk3 (fun h => h2 h.symm) (fun k e h => ?_), Boxed.set _ (hk2.heap hbd h2), hk.trans (hkk.mono fun k _ h => ?_)⟩
  · rcases h with h | h <;> omega
  · rcases h with h | h <;> omega
  · rcases h with h | h <;> omega
  · have := hBw k e; omega
  · rcases h with h | h
    · exact .inl h
    · exact .inr (.inr (.inl h))

theorem Laid.told {w0 : World} {g ab bb B0 : Nat} {B : Option Nat} {b : Bs} {m : Nat} {out : Outs} {f : Bs} {Bk : World → Prop} {W : World} (h : Laid g ab bb B0 B b m out Bk w0 f W) :
    Bk W ∧ Told w0 g ab bb B0 B b (out.map (·.2), m, f) W := ⟨h.bk, ⟨h.rd, ⟨out, h.coll, rfl⟩, h.bad, h.kept⟩⟩

set_option maxHeartbeats 1600000 in
theorem preq1_in (n : Nat) (hn : 1 ≤ n) (W0 w0 : World) (l g ab bb r0 r1 B0 : Nat) (B : Option Nat) (b : Bs) (hg : g < B0) (hab : ab < B0) (hbb : bb < B0) (h1 : ab ≠ g) (h2 : bb ≠ g) (h3 : ab ≠ bb) (hW0 : W0.heap.size ≤ g) (hWa : W0.heap.size ≤ ab) (hWb : W0.heap.size ≤ bb) (hW1 : W0.heap.size ≤ B0)
    (hBw : ∀ k, B = some k → k < W0.heap.size) (hlen : b.length ≤ 100000000) (hr0 : r0 < B0) (hr1 : r1 < B0) (hr2 : ∀ k, (k = r0 ∨ k = r1) → k ≠ g ∧ k ≠ ab ∧ k ≠ bb)
    (hB0 : B0 ≤ w0.heap.size) (hE : Env W0 w0) (h0r : w0.heap[r0]? = some (.cells #[.pointer (some ⟨g, 0, none⟩)] 53 (0, 0))) (h0b : w0.heap[r1]? = some (.cells #[.pointer (some ⟨bb, 0, none⟩)] 61 (0, 0)))
    (Bk : World → Prop) (hBk : ∀ W W', Bk W → Kept (fun k => k < B0) W W' → Bk W')
    (hY : ∀ (out : Outs) (x : Value × List Bs) (W1 : World), Bk W1 → Coll ab B0 out W1 → OwnS W1 B0 x.1 x.2 → out.length ≤ 100000000 → YieldAt Fence.wide (n - 1) Tryd.prog l #[x.1] W1 fun e W' => e = .returned (.bool true) ∧ Bk W' ∧ Kept (fun k => k = ab ∨ B0 ≤ k) W1 W' ∧ Coll ab B0 (out ++ [x]) W')
    (W : World) (hWB : Bk W) (hWk : Kept NoBlock w0 W) (hC : Coll ab B0 [] W) (hR : RdAt W g B b 0) (hbad : Boxed W bb 9 (strV [])) :
    CallsIn Fence.wide n Tryd.prog 24 #[.func (.yield l) #[] #[], .pointer (some ⟨r0, 0, none⟩), .pointer (some ⟨r1, 0, none⟩)] W fun e W' => (∃ v, e = .returned v) ∧ Bk W' ∧ Told w0 g ab bb B0 B b (split parseV b) W' := by
  obtain ⟨M, hM⟩ : ∃ M, split parseV b = M := ⟨_, rfl⟩
  rw [hM]
  have HM := Lib.hid (show splitA parseV [] 0 b = M from hM)
  clear hM
  refine callsIn_of_wp Tryd.func24 rfl trivial ?_ rfl
  simp only [Tryd.ntmps24, List.size_toArray, List.length_cons, List.length_nil, Nat.reduceAdd, Nat.reduceSub, Array.replicate_succ, Array.replicate_zero, List.push_toArray, List.append_toArray, List.nil_append, List.cons_append]
  gi_wp2
  gi_loopw [] (fun wr => ∃ (out : Outs) (m : Nat), m ≤ b.length ∧ out.length ≤ m ∧ Bk wr ∧ Coll ab B0 out wr ∧ RdAt wr g B (b.drop m) m ∧ Boxed wr bb 9 (strV []) ∧ splitA parseV (out.map (·.2)) m (b.drop m) = M ∧ Kept (Wr g ab bb B0) w0 wr) (fun wr => b.length - usedAt wr g)
  case atStart => exact ⟨[], 0, Nat.zero_le _, Nat.le_refl _, hWB, hC, hR, hbad, HM.out, hWk.anyS⟩
  case round =>
    obtain ⟨out, m, hm, hom, hb, hc, hr, hbd, hsp, hk⟩ := hrel
    have hWrW : ∀ k, k < W0.heap.size → ¬ Wr g ab bb B0 k := by
      intro k hk h
      rcases h with h | h | h | h <;> omega
    have hEr := hE.step hk hWrW
    have hn0 : ¬ Wr g ab bb B0 r0 := by have := hr2 r0 (.inl rfl); rintro (h | h | h | h) <;> omega
    have hn1 : ¬ Wr g ab bb B0 r1 := by have := hr2 r1 (.inr rfl); rintro (h | h | h | h) <;> omega
    have hp0 := hk.heap h0r hn0
    have hp1 := hk.heap h0b hn1
    have hfst := pfirst W0 g B (b.drop m) m wr hEr hW0 hr (by rw [List.length_drop]; omega) (fun k e => by have := hBw k e; have := hr.lt; omega)
    have c0 := (blk1 hp0).1
    have c1 := (blk1 hp1).1
    have hrlt := hr.lt
    have hn1g : ¬ (r1 = g) := fun e => hn1 (.inl e)
    have HR := Lib.hid hr
    have HC := Lib.hid hc
    have HB := Lib.hid hb
    have HK := Lib.hid hk
    have HBD := Lib.hid hbd
    have HN1 := Lib.hid hn1g
    have HP1 := Lib.hid hp1
    have HBK := Lib.hid hBk
    have HYY := Lib.hid hY
    have HBW := Lib.hid hBw
    clear hr hc hb hk hEr hn0 hn1 hn1g hp0 hp1 hbad hR hC hWk hWB hbd hE h0r h0b HM hBk hY hWrW hr2 hBw
    cases hF : first parseV (b.drop m) with
    | wait =>
      rw [hF] at hfst
      obtain rfl : (out.map (·.2), m, []) = M := by rw [← hsp, splitA_wait _ hF]
      have HFST := Lib.hid hfst
      clear hfst hsp hF
      gi_wp2_with (first | (refine wpListIn_skip (o := ⟨some 25, .call _, _, _, _, some (6, true)⟩) (by exact rfl) (by exact rfl) ?_; simp only [Act.put, List.setIfInBounds_toArray, List.set_cons_succ, List.set_cons_zero]) | (refine ⟨trivial, ?_⟩; gi_at_call 25; refine (callsIn_wide.2 HFST.out).mono ?_; rintro e w2 ⟨hk2, rfl, hrd⟩; have hc1 := (blk1 (hk2.heap HP1.out HN1.out)).1; have hbx := Boxed.cell (hk2.heap HBD.out h2); have hbf := Boxed.frozen (hk2.heap HBD.out h2)))
      refine bodyPost_ret (results_none rfl _ _ _) rfl ?_
      exact ⟨⟨_, rfl⟩, (laid_at (f := []) HBK.out HB.out HC.out HK.out HBD.out HBW.out hg hbb h1 h2 h3 hWb hk2 hrd).told⟩
    | wrong f =>
      rw [hF] at hfst
      obtain rfl : (out.map (·.2), m, f) = M := by rw [← hsp, splitA_wrong _ hF]
      have HFST := Lib.hid hfst
      clear hfst hsp hF
      gi_wp2_with (first | (refine wpListIn_skip (o := ⟨some 25, .call _, _, _, _, some (6, true)⟩) (by exact rfl) (by exact rfl) ?_; simp only [Act.put, List.setIfInBounds_toArray, List.set_cons_succ, List.set_cons_zero]) | (refine ⟨trivial, ?_⟩; gi_at_call 25; refine (callsIn_wide.2 HFST.out).mono ?_; rintro e w2 ⟨hk2, rfl, hrd⟩; have hc1 := (blk1 (hk2.heap HP1.out HN1.out)).1; have hbx := Boxed.cell (hk2.heap HBD.out h2); have hbf := Boxed.frozen (hk2.heap HBD.out h2)))
      refine bodyPost_ret (results_none rfl _ _ _) rfl ?_
      exact ⟨⟨_, rfl⟩, (laid_at (f := f) HBK.out HB.out HC.out HK.out HBD.out HBW.out hg hbb h1 h2 h3 hWb hk2 hrd).told⟩
    | ok p =>
      obtain ⟨L, q⟩ := p
      rw [hF] at hfst
      have hq := first_ok parseV hF
      rw [List.length_drop] at hq
      rw [splitA_ok _ hF, List.drop_drop] at hsp
      have hq1 : 0 < q := hq.1
      have hq2 : m + q ≤ b.length := by omega
      have HFST := Lib.hid hfst
      clear hfst hF hq
      by_cases hL : L = []
      · rw [if_pos hL] at hsp
        have HSP := Lib.hid hsp
        clear hsp
        subst hL
        gi_wp2_with (first | (refine wpListIn_skip (o := ⟨some 25, .call _, _, _, _, some (6, true)⟩) (by exact rfl) (by exact rfl) ?_; simp only [Act.put, List.setIfInBounds_toArray, List.set_cons_succ, List.set_cons_zero]) | (refine ⟨trivial, ?_⟩; gi_at_call 25; refine (callsIn_wide.2 HFST.out).mono ?_; rintro e w2 ⟨hk2, v, rfl, hown, hrd⟩; rw [List.drop_drop] at hrd; obtain ⟨apv, capv, rfl, _⟩ := ownsRow_form hown; have hc1 := (blk1 (hk2.heap HP1.out HN1.out)).1; have hbx := Boxed.cell (hk2.heap HBD.out h2); have hbf := Boxed.frozen (hk2.heap HBD.out h2)))
        have hld := laid_at (f := []) HBK.out HB.out HC.out HK.out HBD.out HBW.out hg hbb h1 h2 h3 hWb hk2 hrd
        go_roundw
        case rel => exact ⟨out, m + q, hq2, by omega, hld.bk, hld.coll, hld.rd, hld.bad, HSP.out, hld.kept⟩
        case measure => rw [show (Value.string ⟨#[]⟩) = strV [] from rfl, hld.rd.used, HR.out.used]; omega
      · have hLp : 0 < L.length := List.length_pos_iff.2 hL
        rw [if_neg hL] at hsp
        have HSP := Lib.hid hsp
        clear hsp
        gi_wp2_with (refine ⟨trivial, ?_⟩; gi_at_call 25; refine (callsIn_wide.2 HFST.out).mono ?_; rintro e w2 ⟨hk2, v, rfl, hown, hrd⟩; rw [List.drop_drop] at hrd; obtain ⟨apv, capv, rfl, _⟩ := ownsRow_form hown; have hc1 := (blk1 (hk2.heap HP1.out HN1.out)).1; have hbx := Boxed.cell (hk2.heap HBD.out h2); have hbf := Boxed.frozen (hk2.heap HBD.out h2); have hld := laid_at (f := []) HBK.out HB.out HC.out HK.out HBD.out HBW.out hg hbb h1 h2 h3 hWb hk2 hrd; have hsz := hk2.size; have hOW := (show OwnS w2 wr.heap.size _ L from hown); have hon := (ownsRow_lower hOW (base' := B0) (by have := HK.out.size; omega)); obtain ⟨fn, tmps, assign, body, hy, hRd⟩ := HYY.out out (_, L) _ hld.bk hld.coll (OwnS.keptS hon (S := fun k => k = bb) (Kept.setCell (S := fun k => k = bb) (Kept.refl _ _) (p := ⟨bb, 0, none⟩) (fun _ => rfl) _) (fun k hk e => by omega)) (by omega); simp only [strV] at hy hRd; clear hown hon hOW)
        refine hRd.mono ?_
        rintro e W3 ⟨rfl, hb3, hk3, hc3⟩
        gi_wp2
        go_roundw
        case rel =>
          refine ⟨out ++ [(_, L)], m + q, hq2, by rw [List.length_append, List.length_singleton]; omega, hb3, hc3, hld.rd.keptS hk3 (fun h => ?_) (fun k e h => ?_), hk3.heap hld.bad (fun h => ?_), by rw [List.map_append]; exact HSP.out, hld.kept.trans (hk3.mono fun k _ h => ?_)⟩
          · rcases h with h | h <;> omega
          · have := HBW.out k e
            rcases h with h | h <;> omega
          · rcases h with h | h <;> omega
          · rcases h with h | h
            · exact .inr (.inl h)
            · exact .inr (.inr (.inr h))
        case measure =>
          have hu := (hld.rd.keptS hk3 (fun h => by rcases h with h | h <;> omega) (fun k e h => by have := HBW.out k e; rcases h with h | h <;> omega)).used
          rw [hu, HR.out.used]; omega
end Go.Proofs.YtdfkdbdhaaiadaaDoor
