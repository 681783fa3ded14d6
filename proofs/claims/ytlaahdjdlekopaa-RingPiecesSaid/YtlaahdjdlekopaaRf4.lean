/- The ring and the document's ring side by side: what an act does to both. -/
import Derived.Test.YtlaahdjdlekopaaRf3
namespace Go.Proofs.Ytlaahdjdlekopaa
open Go.RowKit
attribute [local go_sem] stillV_value stillV_skip

set_option maxHeartbeats 1600000 in
theorem rfollow_bad (g : Nat) (R : Option Nat) (s : RS) (i k : Int) (w : World) (h : Rg w g R s) (hik : i = 0 ∨ k < 0 ∨ 1125899906842624 < k) :
    Calls Try.prog 28 #[.pointer (some ⟨g, 0, none⟩), .int .u64 i, .int .i64 k] w fun e w' => e = .returned (.int .i64 190) ∧ w = w' := by
  have hM := rmade_rg g R s w h
  by_cases h1 : i = 0
  · subst h1
    go_enter Try.func28, Try.ntmps28
    go_wp2_with (go_at_call 29; refine hM.mono ?_; rintro e w1 ⟨rfl, rfl⟩)
    go_ret
    exact ⟨rfl, rfl⟩
  · have hi1 : (i == 0) = false := by simpa using h1
    by_cases h2 : k < 0
    · go_enter Try.func28, Try.ntmps28
      go_wp2_with (go_at_call 29; refine hM.mono ?_; rintro e w1 ⟨rfl, rfl⟩)
      go_ret
      exact ⟨rfl, rfl⟩
    · have h3 : 1125899906842624 < k := (hik.resolve_left h1).resolve_left h2
      go_enter Try.func28, Try.ntmps28
      go_wp2_with (go_at_call 29; refine hM.mono ?_; rintro e w1 ⟨rfl, rfl⟩)
      go_ret
      exact ⟨rfl, rfl⟩

set_option maxHeartbeats 1600000 in
theorem rfollow (g : Nat) (R : Option Nat) (s : RS) (i : Int) (k : Nat) (w : World) (h : Rg w g R s) (hi : i ≠ 0) (hk : k ≤ 1125899906842624) :
    Calls Try.prog 28 #[.pointer (some ⟨g, 0, none⟩), .int .u64 i, .int .i64 k] w fun e w' => e = .returned (.int .i64 0) ∧ Rg w' g none (s.follow i k) ∧ Kept (fun k => k = g) w w' := by
  have hM := rmade_rg g R s w h
  obtain ⟨ad, m, h0, h1, h2, h3, h4, h5, h6, h7, h8⟩ := h
  obtain ⟨c0, c1, c2, c3, c4, c5, c6⟩ := blk7 h0
  have f0 := frozenB h0 0
  have f1 := frozenB h0 1
  have f2 := frozenB h0 2
  have f3 := frozenB h0 3
  have f4 := frozenB h0 4
  have f6 := frozenB h0 6
  have hhs := lt_of_heap h0
  have hn0 : (i == 0) = false := by simpa using hi
  have k1 : ¬ ((k : Int) < 0) := by omega
  have k2 : ¬ ((1125899906842624 : Int) < k) := by omega
  have H0 := Lib.hid h0
  clear h0 h1 h8
  go_enter Try.func28, Try.ntmps28
  go_wp2_with (go_at_call 29; refine hM.mono ?_; rintro e w1 ⟨rfl, rfl⟩)
  go_ret
  have hw : ((((((w.setCell ⟨g, 0, none⟩ (.int .u64 i)).setCell ⟨g, 1, none⟩ (.int .i64 k)).setCell ⟨g, 2, none⟩ (.int .u64 0)).setCell ⟨g, 3, none⟩ (.int .i64 0)).setCell ⟨g, 4, none⟩ (.int .i64 k)).setCell ⟨g, 6, none⟩ (.slice none 0 0)).heap[g]? = some (.cells #[.int .u64 i, .int .i64 k, .int .u64 0, .int .i64 0, .int .i64 k, .int .i64 s.size, .slice none 0 0] 65 (0, 0)) :=
    heap_setCell_same (heap_setCell_same (heap_setCell_same (heap_setCell_same (heap_setCell_same (heap_setCell_same (Hid.out H0) 0 _) 1 _) 2 _) 3 _) 4 _) 6 _
  refine ⟨rfl, ⟨none, 0, hw, rfl, Nat.le_refl _, Nat.zero_le _, h4, h5, hk, Nat.zero_le _, .inl ⟨rfl, rfl, rfl⟩⟩,
    Kept.setCell (S := fun k => k = g) (p := ⟨g, 6, none⟩) (Kept.setCell (S := fun k => k = g) (p := ⟨g, 4, none⟩) (Kept.setCell (S := fun k => k = g) (p := ⟨g, 3, none⟩) (Kept.setCell (S := fun k => k = g) (p := ⟨g, 2, none⟩) (Kept.setCell (S := fun k => k = g) (p := ⟨g, 1, none⟩) (Kept.setCell (S := fun k => k = g) (p := ⟨g, 0, none⟩) (Kept.refl _ _) (fun _ => rfl) _) (fun _ => rfl) _) (fun _ => rfl) _) (fun _ => rfl) _) (fun _ => rfl) _) (fun _ => rfl) _⟩

theorem rstate (g : Nat) (R : Option Nat) (s : RS) (w : World) (h : Rg w g R s) :
    Calls Try.prog 20 #[.pointer (some ⟨g, 0, none⟩)] w fun e w' => e = .returned (.agg #[.int .u64 s.id, .int .i64 s.off, .int .u64 s.second, .int .i64 s.fork]) ∧ Kept NoBlock w w' := by
  have hM := rmade_rg g R s _ (h.keptNo (Kept.allocd w (.cells #[.int .u64 0, .int .i64 0, .int .u64 0, .int .i64 0] 49)))
  obtain ⟨ad, m, h0, h1, h2, h3, h4, h5, h6, h7, h8⟩ := h
  obtain ⟨c0, c1, c2, c3, c4, c5, c6⟩ := blk7 h0
  have hhs := lt_of_heap h0
  clear h0 h1 h8
  go_enter Try.func20, Try.ntmps20
  go_wp2_with (go_at_call 29; refine hM.mono ?_; rintro e w1 ⟨rfl, rfl⟩)
  refine bodyPost_ret (v := .agg #[.int .u64 s.id, .int .i64 s.off, .int .u64 s.second, .int .i64 s.fork]) ((results_cell rfl _ _ _).trans ?_) rfl ⟨rfl, Kept.allocd _ _⟩
  go_simp

def fe (s : RS) (n : Nat) : Int := if 1125899906842624 < s.off + n then 2 else 0
def RS.fed (s : RS) (b : List UInt8) : RS := if 1125899906842624 < s.off + b.length then s else s.feed b
def fo (s : RS) (i : Int) : Int := if i = 0 ∨ i = s.id then 190 else 0
def RS.forked (s : RS) (i : Int) : RS := if i = 0 ∨ i = s.id then s else s.fork_ i
def fw (i k : Int) : Int := if i = 0 ∨ k < 0 ∨ 1125899906842624 < k then 190 else 0
def RS.followed (s : RS) (i k : Int) : RS := if i = 0 ∨ k < 0 ∨ 1125899906842624 < k then s else s.follow i k.toNat

/-- The ring at g and the document's at h, in new memory, apart. -/
structure Bo (w0 w : World) (g : Nat) (R : Option Nat) (s : RS) (h : Nat) (q : Option Nat) (t : RS) : Prop where
  inn : In w0 w g R s
  rr : Rr w h q t
  newh : w0.heap.size ≤ h
  newq : ∀ r, q = some r → w0.heap.size ≤ r ∧ r < w.heap.size
  gh : g ≠ h
  Rh : R ≠ some h
  qg : q ≠ some g
  qR : ∀ r, q = some r → R ≠ some r

theorem Bo.keptNo {w0 w w' : World} {g : Nat} {R : Option Nat} {s : RS} {h : Nat} {q : Option Nat} {t : RS} (b : Bo w0 w g R s h q t) (hk : Kept NoBlock w w') : Bo w0 w' g R s h q t :=
  ⟨b.inn.keptNo hk, b.rr.keptNo hk, b.newh, fun r e => ⟨(b.newq r e).1, Nat.lt_of_lt_of_le (b.newq r e).2 hk.size⟩, b.gh, b.Rh, b.qg, b.qR⟩

theorem Bo.feedX {w0 w : World} {g : Nat} {R : Option Nat} {s : RS} {h : Nat} {q : Option Nat} {t : RS} (bo : Bo w0 w g R s h q t) (ap : Option Addr) (n cap : Nat) (b : List UInt8) (hb : Holds w0 ap n (b.map bv)) (hncap : n ≤ cap) (hz : ap = none → cap = 0) :
    Calls Try.prog 12 #[.pointer (some ⟨g, 0, none⟩), .slice ap n cap] w fun e w' => e = .returned (.int .i64 (fe s n)) ∧ ∃ R', Bo w0 w' g R' (s.fed b) h q t ∧ Kept (fun k => k = g ∨ R = some k) w w' := by
  have hbl : b.length = n := by simpa using hb.1
  by_cases hl : 1125899906842624 < s.off + n
  · refine (rfeed_long g R s ap n cap w bo.inn.rg hl).mono ?_
    rintro e w' ⟨rfl, rfl⟩
    refine ⟨by rw [fe, if_pos hl], R, ?_, Kept.refl _ _⟩
    rw [RS.fed, hbl, if_pos hl]; exact bo
  · refine (rfeed g R s ap n cap b w bo.inn.rg (hb.below bo.inn.below) hncap hz (fun ad ha hn => ?_) (by omega)).mono ?_
    · have hl := hb.lt ha hn
      exact ⟨by have := bo.inn.new; omega, fun e => by have := bo.inn.newR _ e; omega⟩
    · rintro e w' ⟨rfl, R', hR', hg, hk⟩
      have hkh : ¬ ((fun k => k = g ∨ R = some k) h) := fun hh => hh.elim (fun e => bo.gh e.symm) bo.Rh
      have hkq : ∀ r, q = some r → ¬ ((fun k => k = g ∨ R = some k) r) := fun r e hh => hh.elim (fun e' => bo.qg (e'.subst (motive := fun x => q = some x) e)) (bo.qR r e)
      refine ⟨by rw [fe, if_neg hl], R', ?_, hk⟩
      rw [RS.fed, hbl, if_neg hl]
      refine ⟨⟨bo.inn.below.trans (hk.below bo.inn.below.size (fun i hi => ?_)), hg, bo.inn.new, fun r e => ?_⟩, bo.rr.kept hk hkh hkq, bo.newh, fun r e => ⟨(bo.newq r e).1, Nat.lt_of_lt_of_le (bo.newq r e).2 hk.size⟩, bo.gh, ?_, bo.qg, fun r e => ?_⟩
      · rcases hi with hi | hi
        · rw [hi]; exact bo.inn.new
        · exact bo.inn.newR _ hi
      · rcases hR' with e' | ⟨r', e', hr⟩
        · exact bo.inn.newR r (by rw [← e', e])
        · rw [e] at e'; cases e'; exact Nat.le_trans bo.inn.below.size hr
      · rcases hR' with e' | ⟨r', e', hr⟩
        · rw [e']; exact bo.Rh
        · rw [e']; intro e2; cases e2; have := bo.rr.lt; omega
      · rcases hR' with e' | ⟨r', e', hr⟩
        · rw [e']; exact bo.qR r e
        · rw [e']; intro e2; cases e2; have := (bo.newq _ e).2; omega

theorem Bo.feedR {w0 w : World} {g : Nat} {R : Option Nat} {s : RS} {h : Nat} {q : Option Nat} {t : RS} (bo : Bo w0 w g R s h q t) (ap : Option Addr) (n cap : Nat) (b : List UInt8) (hb : Holds w0 ap n (b.map bv)) (hncap : n ≤ cap) (hz : ap = none → cap = 0) (hn : n ≤ 1000) :
    Calls Try.prog 33 #[.pointer (some ⟨h, 0, none⟩), .slice ap n cap] w fun e w' => e = .returned (.int .i64 (fe t n)) ∧ ∃ q', Bo w0 w' g R s h q' (t.fed b) ∧ Kept (fun k => k = h) w w' := by
  have hbl : b.length = n := by simpa using hb.1
  by_cases hl : 1125899906842624 < t.off + n
  · refine (ffeed_long h q t ap n cap w bo.rr hl).mono ?_
    rintro e w' ⟨rfl, rfl⟩
    refine ⟨by rw [fe, if_pos hl], q, ?_, Kept.refl _ _⟩
    rw [RS.fed, hbl, if_pos hl]; exact bo
  · refine (ffeed h q t ap n cap b w bo.rr (hb.below bo.inn.below) hncap hz (fun ad ha hn => ?_) hn (by omega)).mono ?_
    · have hl := hb.lt ha hn
      have := bo.newh; omega
    · rintro e w' ⟨rfl, q', hq', hg, hk⟩
      refine ⟨by rw [fe, if_neg hl], q', ?_, hk⟩
      rw [RS.fed, hbl, if_neg hl]
      have hs := bo.inn.below.size
      refine ⟨⟨bo.inn.below.trans (hk.below bo.inn.below.size (fun i hi => by rw [hi]; exact bo.newh)), bo.inn.rg.kept hk bo.gh (fun r e hh => by subst hh; exact bo.Rh e), bo.inn.new, bo.inn.newR⟩, hg, bo.newh, fun r e => ⟨Nat.le_trans hs (hq' r e).1, (hq' r e).2⟩, bo.gh, bo.Rh, fun e => ?_, fun r e e2 => ?_⟩
      · have := (hq' _ e).1; have := bo.inn.rg.lt; omega
      · have := (hq' _ e).1; have := (bo.inn.rg.ring e2).1; omega

theorem Bo.forkX {w0 w : World} {g : Nat} {R : Option Nat} {s : RS} {h : Nat} {q : Option Nat} {t : RS} (bo : Bo w0 w g R s h q t) (i : Int) :
    Calls Try.prog 13 #[.pointer (some ⟨g, 0, none⟩), .int .u64 i] w fun e w' => e = .returned (.int .i64 (fo s i)) ∧ Bo w0 w' g R (s.forked i) h q t ∧ Kept (fun k => k = g) w w' := by
  by_cases hi : i = 0 ∨ i = s.id
  · refine (rfork_bad g R s i w bo.inn.rg hi).mono ?_
    rintro e w' ⟨rfl, rfl⟩
    refine ⟨by rw [fo, if_pos hi], ?_, Kept.refl _ _⟩
    rw [RS.forked, if_pos hi]; exact bo
  · refine (rfork g R s i w bo.inn.rg (fun e => hi (.inl e)) (fun e => hi (.inr e))).mono ?_
    rintro e w' ⟨rfl, hg, hk⟩
    refine ⟨by rw [fo, if_neg hi], ?_, hk⟩
    rw [RS.forked, if_neg hi]
    exact ⟨⟨bo.inn.below.trans (hk.below bo.inn.below.size (fun i hi => by rw [hi]; exact bo.inn.new)), hg, bo.inn.new, bo.inn.newR⟩, bo.rr.kept hk (fun e => bo.gh e.symm) (fun r e hh => by subst hh; exact bo.qg e), bo.newh, fun r e => ⟨(bo.newq r e).1, Nat.lt_of_lt_of_le (bo.newq r e).2 hk.size⟩, bo.gh, bo.Rh, bo.qg, bo.qR⟩

theorem Bo.forkR {w0 w : World} {g : Nat} {R : Option Nat} {s : RS} {h : Nat} {q : Option Nat} {t : RS} (bo : Bo w0 w g R s h q t) (i : Int) :
    Calls Try.prog 34 #[.pointer (some ⟨h, 0, none⟩), .int .u64 i] w fun e w' => e = .returned (.int .i64 (fo t i)) ∧ Bo w0 w' g R s h q (t.forked i) ∧ Kept (fun k => k = h) w w' := by
  by_cases hi : i = 0 ∨ i = t.id
  · refine (ffork_bad h q t i w bo.rr hi).mono ?_
    rintro e w' ⟨rfl, rfl⟩
    refine ⟨by rw [fo, if_pos hi], ?_, Kept.refl _ _⟩
    rw [RS.forked, if_pos hi]; exact bo
  · refine (ffork h q t i w bo.rr (fun e => hi (.inl e)) (fun e => hi (.inr e))).mono ?_
    rintro e w' ⟨rfl, hg, hk⟩
    refine ⟨by rw [fo, if_neg hi], ?_, hk⟩
    rw [RS.forked, if_neg hi]
    exact ⟨⟨bo.inn.below.trans (hk.below bo.inn.below.size (fun i hi => by rw [hi]; exact bo.newh)), bo.inn.rg.kept hk bo.gh (fun r e hh => by subst hh; exact bo.Rh e), bo.inn.new, bo.inn.newR⟩, hg, bo.newh, fun r e => ⟨(bo.newq r e).1, Nat.lt_of_lt_of_le (bo.newq r e).2 hk.size⟩, bo.gh, bo.Rh, bo.qg, bo.qR⟩

theorem Bo.followX {w0 w : World} {g : Nat} {R : Option Nat} {s : RS} {h : Nat} {q : Option Nat} {t : RS} (bo : Bo w0 w g R s h q t) (i k : Int) :
    Calls Try.prog 28 #[.pointer (some ⟨g, 0, none⟩), .int .u64 i, .int .i64 k] w fun e w' => e = .returned (.int .i64 (fw i k)) ∧ ∃ R', Bo w0 w' g R' (s.followed i k) h q t ∧ Kept (fun k => k = g) w w' := by
  by_cases hi : i = 0 ∨ k < 0 ∨ 1125899906842624 < k
  · refine (rfollow_bad g R s i k w bo.inn.rg hi).mono ?_
    rintro e w' ⟨rfl, rfl⟩
    refine ⟨by rw [fw, if_pos hi], R, ?_, Kept.refl _ _⟩
    rw [RS.followed, if_pos hi]; exact bo
  · have hk := rfollow g R s i k.toNat w bo.inn.rg (fun e => hi (.inl e)) (by omega)
    rw [show ((k.toNat : Nat) : Int) = k by omega] at hk
    refine hk.mono ?_
    rintro e w' ⟨rfl, hg, hk⟩
    refine ⟨by rw [fw, if_neg hi], none, ?_, hk⟩
    rw [RS.followed, if_neg hi]
    exact ⟨⟨bo.inn.below.trans (hk.below bo.inn.below.size (fun i hi => by rw [hi]; exact bo.inn.new)), hg, bo.inn.new, (fun r e => by cases e)⟩, bo.rr.kept hk (fun e => bo.gh e.symm) (fun r e hh => by subst hh; exact bo.qg e), bo.newh, fun r e => ⟨(bo.newq r e).1, Nat.lt_of_lt_of_le (bo.newq r e).2 hk.size⟩, bo.gh, (fun e => by cases e), bo.qg, (fun r _ e => by cases e)⟩

theorem Bo.followR {w0 w : World} {g : Nat} {R : Option Nat} {s : RS} {h : Nat} {q : Option Nat} {t : RS} (bo : Bo w0 w g R s h q t) (i k : Int) :
    Calls Try.prog 35 #[.pointer (some ⟨h, 0, none⟩), .int .u64 i, .int .i64 k] w fun e w' => e = .returned (.int .i64 (fw i k)) ∧ ∃ q', Bo w0 w' g R s h q' (t.followed i k) ∧ Kept (fun k => k = h) w w' := by
  by_cases hi : i = 0 ∨ k < 0 ∨ 1125899906842624 < k
  · refine (ffollow_bad h i k w hi).mono ?_
    rintro e w' ⟨rfl, rfl⟩
    refine ⟨by rw [fw, if_pos hi], q, ?_, Kept.refl _ _⟩
    rw [RS.followed, if_pos hi]; exact bo
  · have hk := ffollow h q t i k.toNat w bo.rr (fun e => hi (.inl e)) (by omega)
    rw [show ((k.toNat : Nat) : Int) = k by omega] at hk
    refine hk.mono ?_
    rintro e w' ⟨rfl, hg, hk⟩
    refine ⟨by rw [fw, if_neg hi], none, ?_, hk⟩
    rw [RS.followed, if_neg hi]
    exact ⟨⟨bo.inn.below.trans (hk.below bo.inn.below.size (fun i hi => by rw [hi]; exact bo.newh)), bo.inn.rg.kept hk bo.gh (fun r e hh => by subst hh; exact bo.Rh e), bo.inn.new, bo.inn.newR⟩, hg, bo.newh, (fun r e => by cases e), bo.gh, bo.Rh, (fun e => by cases e), (fun r e => by cases e)⟩
end Go.Proofs.Ytlaahdjdlekopaa
