/- A reader of requests: counts. -/
import Derived.Test.YtdfkdbdhaaiadaaDoorRe1
namespace Go.Proofs.YtdfkdbdhaaiadaaDoor
open Go.RowKit
attribute [local go_sem] fold_part fold_some fold_some' partAt_zero

def faultE (f : Bs) : List PanicEntry := [{ v := .iface 69 (.string ⟨f.toArray⟩), recovered := false }]
def waitE : List PanicEntry := [{ v := .iface 71 (.agg #[]), recovered := false }]

/-- The reader's block, whatever is left in it. -/
def Bx2 (w : World) (g : Nat) : Prop := ∃ x y, w.heap[g]? = some (.cells #[x, y] 57 (0, 0))

theorem RdAt.bx {w : World} {g : Nat} {B : Option Nat} {l : List UInt8} {u : Nat} (h : RdAt w g B l u) : Bx2 w g := by
  obtain ⟨v, hg, _⟩ := h; exact ⟨_, _, hg⟩
theorem RdAt.lt {w : World} {g : Nat} {B : Option Nat} {l : List UInt8} {u : Nat} (h : RdAt w g B l u) : g < w.heap.size := by
  obtain ⟨v, hg, _⟩ := h; exact lt_of_heap hg
theorem RdAt.keptNo {w w' : World} {g : Nat} {B : Option Nat} {l : List UInt8} {u : Nat} (h : RdAt w g B l u) (hk : Kept NoBlock w w') : RdAt w' g B l u := by
  obtain ⟨v, hg, hv, h1, h2⟩ := h; exact ⟨v, hk.heap hg (fun h => h), hv.keptNo hk, h1, h2⟩

/-- How a call on the reader ends: by the model's word. -/
def Ends {α : Type} (g : Nat) (B : Option Nat) (l : Bs) (u : Nat) (M : Got (α × Nat)) (ret : α → Value → World → Prop) (w : World) (e : Ending) (w' : World) : Prop :=
  Kept (fun k => k = g) w w' ∧ match M with
  | .wait => e = .panicked waitE ∧ Bx2 w' g
  | .wrong f => e = .panicked (faultE f) ∧ Bx2 w' g
  | .ok (a, m) => ∃ v, e = .returned v ∧ ret a v w' ∧ RdAt w' g B (l.drop m) (u + m)

theorem ends_wrong {α : Type} {g : Nat} {B : Option Nat} {l : Bs} {u : Nat} {f : Bs} {ret : α → Value → World → Prop} {w w' : World} (h : RdAt w g B l u) (hk : Kept NoBlock w w') : Ends g B l u (.wrong f) ret w (.panicked (faultE f)) w' :=
  ⟨hk.anyS, rfl, (h.keptNo hk).bx⟩
theorem ends_wait {α : Type} {g : Nat} {B : Option Nat} {l : Bs} {u : Nat} {ret : α → Value → World → Prop} {w w' : World} (h : RdAt w g B l u) (hk : Kept NoBlock w w') : Ends g B l u .wait ret w (.panicked waitE) w' :=
  ⟨hk.anyS, rfl, (h.keptNo hk).bx⟩

def retInt (n : Int) (v : Value) (_ : World) : Prop := v = .int .i64 n

theorem take_min (l : Bs) (n : Nat) : l.take (min l.length n) = l.take n := by
  rw [List.take_eq_take_iff]; omega

set_option maxRecDepth 100000 in
set_option maxHeartbeats 1600000 in
theorem pcount (W0 : World) (g : Nat) (B : Option Nat) (l : Bs) (u : Nat) (big bad : ByteArray) (FB Fb : Bs) (hFB : big = ⟨FB.toArray⟩) (hFb : bad = ⟨Fb.toArray⟩) (least most : Int) (w : World)
    (hE : Env W0 w) (hW : W0.heap.size ≤ g) (h : RdAt w g B l u) (hlu : u + l.length ≤ 100000000) (c : UInt8) (hc : l.head? = some c) (hc13 : c ≠ 13) :
    Calls Tryd.prog 40 #[.pointer (some ⟨g, 0, none⟩), .string big, .string bad, .int .i64 least, .int .i64 most] w (Ends g B l u (count parseV FB Fb least most l) retInt w) := by
  have hl : l.length ≤ 100000000 := by omega
  have HLU := Lib.hid hlu
  clear hlu
  have hR := h
  obtain ⟨v, hg, hv, hB, hBg⟩ := h
  obtain ⟨ap, cap, rfl, hc1, hc2⟩ := hv.parts
  obtain ⟨c0, c1, f0, f1⟩ := blk2 hg
  have HR := Lib.hid hR
  have hmin : (if (65536 : Int) < l.length then (65536 : Int) else l.length) = (min l.length 65536 : Nat) := by split <;> omega
  have hmin2 : min (l.length : Int) 65536 = (min l.length 65536 : Nat) := by omega
  have hidx : ∀ n, Calls Tryd.prog 42 #[.slice ap (min l.length 65536) cap, .int .u8 13] (w.drewN n) fun e w' => e = .returned (.int .i64 (fnd 13 l)) ∧ w' = w.drewN n := fun n => by
    have := pidx (.slice ap (min l.length 65536) cap) (l.take (min l.length 65536)) 13 13 rfl (w.drewN n) (BytesV.front (w := w.drewN n) hv _ (by omega))
    rw [take_min] at this
    exact this
  have hf1 : 0 ≤ fnd 13 l → 1 ≤ fnd 13 l := fun h0 => by
    obtain ⟨c', r, rfl⟩ : ∃ c' r, l = c' :: r := by cases l with | nil => cases hc | cons a r => exact ⟨a, r, rfl⟩
    simp at hc
    subst hc
    unfold fnd at h0 ⊢
    rw [show (65536 : Nat) = 65535 + 1 from rfl, List.take_succ_cons] at h0 ⊢
    unfold Lib.indexByte at h0 ⊢
    have e : (c' == 13) = false := by simpa using hc13
    simp only [e, Bool.false_eq_true, if_false] at h0 ⊢
    split
    · simp_all
    · have := Lib.indexByte_ge (r.take 65535) 13
      simp_all
      omega
  have hf2 := fun h0 => (fnd_lt (c := 13) (a := l) h0)
  generalize hF : fnd 13 l = F at *
  generalize hm : min l.length 65536 = m at *
  have hm1 : m ≤ cap := by omega
  generalize hlen : List.length l = len at *
  by_cases h0 : F < 0
  · by_cases h1 : 65536 < len
    · have hM : count parseV FB Fb least most l = .wrong FB := by unfold count; rw [hF, if_pos h0, hlen, if_pos h1]
      rw [hM]
      clear hM hlen hF hm hf1 hf2 hc hc13 hv hB hBg hg hc2 hR
      go_enter Tryd.func40, Tryd.ntmps40
      go_wp2
      go_quiet ((go_at_call 42; exact Calls.quiet_of_same (hidx _)))
      go_wp2
      exact ⟨rfl, ends_wrong HR.out ((Kept.refl _ w).drewN _)⟩
    · have hM : count parseV FB Fb least most l = .wait := by unfold count; rw [hF, if_pos h0, hlen, if_neg h1]
      rw [hM]
      clear hM hlen hF hm hf1 hf2 hc hc13 hv hB hBg hg hc2 hR
      go_enter Tryd.func40, Tryd.ntmps40
      go_wp2
      go_quiet ((go_at_call 42; exact Calls.quiet_of_same (hidx _)))
      go_wp2
      exact ⟨rfl, ends_wait HR.out ((Kept.refl _ w).drewN _)⟩
  · obtain ⟨i, rfl⟩ : ∃ i : Nat, F = i := ⟨F.toNat, by omega⟩
    have hi1 : 1 ≤ i := by have := hf1 (by omega); omega
    obtain ⟨hi2, hi3⟩ := hf2 (by omega)
    have ei : ((i : Int)).toNat = i := Int.toNat_natCast i
    rw [ei] at hi2 hi3
    by_cases h1 : len ≤ i + 1
    · have hM : count parseV FB Fb least most l = .wait := by unfold count; rw [hF, if_neg h0, hlen, if_pos (by omega)]
      rw [hM]
      have h1' : (len : Int) ≤ (i : Int) + 1 := by omega
      clear hM hlen hF hm hf1 hf2 hc hc13 hv hB hBg hg hc2 hR h1 ei
      go_enter Tryd.func40, Tryd.ntmps40
      go_wp2
      go_quiet ((go_at_call 42; exact Calls.quiet_of_same (hidx _)))
      go_wp2
      exact ⟨rfl, ends_wait HR.out ((Kept.refl _ w).drewN _)⟩
    · have hconv : ∀ n, (convert 22 9 (.slice (partAt ap 1 cap) (i - 1) (cap - 1))).run Tryd.prog (w.drewN n) = .ok (.string ⟨((l.take i).drop 1).toArray⟩) (w.drewN n) := fun n =>
        conv_bytes (w.drewN n) 22 9 5 Tryd.underlying22 Tryd.underlying5 Tryd.underlying9 (cap - 1) (RowV.holds (BytesV.part (w := w.drewN n) hv 1 i hi1 (by omega))).1
      have hSs : (⟨((l.take i).drop 1).toArray⟩ : ByteArray).size ≤ 1000000 := by
        show ((l.take i).drop 1).toArray.size ≤ _
        rw [List.size_toArray, List.length_drop, List.length_take]; omega
      have hSd : (⟨((l.take i).drop 1).toArray⟩ : ByteArray).data.toList = (l.take i).drop 1 := rfl
      have hM : count parseV FB Fb least most l = if (parseV ((l.take i).drop 1)).2 ≠ 0 ∨ (parseV ((l.take i).drop 1)).1 < least ∨ most < (parseV ((l.take i).drop 1)).1 then .wrong Fb else .ok ((parseV ((l.take i).drop 1)).1, i + 2) := by
        unfold count; rw [hF, if_neg h0, hlen, ei, if_neg h1]
      rw [hM]
      have hpar := fun w' hV => nparse ⟨((l.take i).drop 1).toArray⟩ hSs w' hV
      rw [hSd] at hpar
      generalize (⟨((l.take i).drop 1).toArray⟩ : ByteArray) = S at hconv hpar
      generalize parseV ((l.take i).drop 1) = pv at *
      obtain ⟨n, y⟩ := pv
      simp only at hpar ⊢
      have h1' : ¬ ((len : Int) ≤ (i : Int) + 1) := by omega
      clear hM hF hm hf1 hf2 hc hc13 hv hB hBg hg hc2 hR h1 ei hSs hSd
      have HL := Lib.hid hlen
      clear hlen
      have key : (∃ (w1 : World), True) := ⟨w, trivial⟩
      clear key
      have cases4 : (¬ y = 0) ∨ (y = 0 ∧ n < least) ∨ (y = 0 ∧ ¬ n < least ∧ most < n) ∨ (y = 0 ∧ ¬ n < least ∧ ¬ most < n) := by omega
      rcases cases4 with hy | ⟨rfl, hy⟩ | ⟨rfl, hy, hy2⟩ | ⟨rfl, hy, hy2⟩
      · rw [if_pos (.inl hy)]
        go_enter Tryd.func40, Tryd.ntmps40
        go_wp2
        go_quiet ((go_at_call 42; exact Calls.quiet_of_same (hidx _)))
        go_wp2_with fail
        refine (hpar (w.drewN nq) (hE.drewN nq).now).mono ?_
        rintro e w1 ⟨rfl, hb1⟩
        have HK1 := Lib.hid (((Kept.refl _ w).drewN nq).trans (Kept.ofB hb1))
        clear hidx hconv hpar hb1 c0 c1 f0 f1 hmin hmin2
        go_wp2
        exact ⟨rfl, ends_wrong HR.out HK1.out⟩
      · rw [if_pos (.inr (.inl hy))]
        go_enter Tryd.func40, Tryd.ntmps40
        go_wp2
        go_quiet ((go_at_call 42; exact Calls.quiet_of_same (hidx _)))
        go_wp2_with fail
        refine (hpar (w.drewN nq) (hE.drewN nq).now).mono ?_
        rintro e w1 ⟨rfl, hb1⟩
        have HK1 := Lib.hid (((Kept.refl _ w).drewN nq).trans (Kept.ofB hb1))
        clear hidx hconv hpar hb1 c0 c1 f0 f1 hmin hmin2
        go_wp2
        exact ⟨rfl, ends_wrong HR.out HK1.out⟩
      · rw [if_pos (.inr (.inr hy2))]
        go_enter Tryd.func40, Tryd.ntmps40
        go_wp2
        go_quiet ((go_at_call 42; exact Calls.quiet_of_same (hidx _)))
        go_wp2_with fail
        refine (hpar (w.drewN nq) (hE.drewN nq).now).mono ?_
        rintro e w1 ⟨rfl, hb1⟩
        have HK1 := Lib.hid (((Kept.refl _ w).drewN nq).trans (Kept.ofB hb1))
        clear hidx hconv hpar hb1 c0 c1 f0 f1 hmin hmin2
        go_wp2
        exact ⟨rfl, ends_wrong HR.out HK1.out⟩
      · rw [if_neg (by simp only [not_or]; exact ⟨fun h => h rfl, hy, hy2⟩)]
        go_enter Tryd.func40, Tryd.ntmps40
        go_wp2
        go_quiet ((go_at_call 42; exact Calls.quiet_of_same (hidx _)))
        go_wp2_with fail
        refine (hpar (w.drewN nq) (hE.drewN nq).now).mono ?_
        rintro e w1 ⟨rfl, hb1⟩
        have HK1 := Lib.hid (((Kept.refl _ w).drewN nq).trans (Kept.ofB hb1))
        clear hidx hconv hpar hb1 c0 c1 f0 f1 hmin hmin2
        go_wp2_with fail
        refine (pskip g B l u (i + 2) w1 (HR.out.keptNo HK1.out) (by rw [HL.out]; omega) (by rw [HL.out]; exact HLU.out)).mono ?_
        rintro e w2 ⟨v2, rfl, _, _, hR2, hk2⟩
        have HR2 := Lib.hid hR2
        have HK2 := Lib.hid hk2
        clear hR2 hk2
        go_wp2
        go_ret
        exact ⟨HK1.out.anyS.trans HK2.out, _, rfl, rfl, HR2.out⟩
end Go.Proofs.YtdfkdbdhaaiadaaDoor
