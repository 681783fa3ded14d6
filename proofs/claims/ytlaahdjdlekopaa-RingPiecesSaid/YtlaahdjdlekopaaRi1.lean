/- A ring that the call itself made: what it is fed from outside; plain lists of what is told. -/
import Derived.Test.YtlaahdjdlekopaaRa1
namespace Go.Proofs.Ytlaahdjdlekopaa
open Go.RowKit

/-- All that was there is as it was; the ring lies in new memory. -/
structure In (w0 w : World) (g : Nat) (R : Option Nat) (s : RS) : Prop where
  below : Below w0.heap.size w0 w
  rg : Rg w g R s
  new : w0.heap.size ≤ g
  newR : ∀ r, R = some r → w0.heap.size ≤ r

theorem In.keptNo {w0 w w' : World} {g : Nat} {R : Option Nat} {s : RS} (h : In w0 w g R s) (hk : Kept NoBlock w w') : In w0 w' g R s :=
  ⟨h.below.trans (hk.below h.below.size (fun _ h => h.elim)), h.rg.keptNo hk, h.new, h.newR⟩
theorem In.drewN {w0 w : World} {g : Nat} {R : Option Nat} {s : RS} (h : In w0 w g R s) (n : Nat) : In w0 (w.drewN n) g R s := h.keptNo ((Kept.refl _ _).drewN n)
theorem In.alloc {w0 w : World} {g : Nat} {R : Option Nat} {s : RS} (h : In w0 w g R s) (o : Obj) : In w0 (w.alloc o) g R s := h.keptNo (Kept.allocd _ _)

theorem nnew (size id : Int) (w0 w : World) (hB : Below w0.heap.size w0 w) (h1 : 1 ≤ size) (h2 : size ≤ 16777216) (hid : id ≠ 0) :
    Calls Try.prog 9 #[.int .i64 size, .int .u64 id] w fun e w' => e = .returned (.tuple #[.pointer (some ⟨w.heap.size, 0, none⟩), .int .i64 0]) ∧ In w0 w' w.heap.size none ⟨id, 0, 0, 0, 0, size.toNat, []⟩ ∧ Kept NoBlock w w' := by
  refine (rnew size id w h1 h2 hid).mono ?_
  rintro e w' ⟨rfl, h, hk⟩
  exact ⟨rfl, ⟨hB.trans (hk.below hB.size (fun _ h => h.elim)), h, hB.size, fun r h => by cases h⟩, hk⟩

theorem Holds.lt {w : World} {ap : Option Addr} {n : Nat} {xs : List Value} (h : Holds w ap n xs) {ad : Addr} (ha : ap = some ad) (hn : 0 < n) : ad.block < w.heap.size := by
  obtain ⟨ad', e, hc⟩ := h.2 hn
  rw [ha] at e; cases e
  have := cell_lt (hc 0 _ (List.getElem?_eq_getElem (by rw [h.1]; exact hn)))
  have e : (ad.add 0).block = ad.block := by unfold Addr.add; split <;> rfl
  omega

theorem nfeed (g : Nat) (R : Option Nat) (s : RS) (ap : Option Addr) (n cap : Nat) (b : List UInt8) (w0 w : World) (h : In w0 w g R s) (hb : Holds w0 ap n (b.map bv)) (hncap : n ≤ cap) (hz : ap = none → cap = 0) (hfit : s.off + n ≤ 1125899906842624) :
    Calls Try.prog 12 #[.pointer (some ⟨g, 0, none⟩), .slice ap n cap] w fun e w' => e = .returned (.int .i64 0) ∧ ∃ R', In w0 w' g R' (s.feed b) ∧ Kept (fun k => k = g ∨ R = some k) w w' := by
  refine (rfeed g R s ap n cap b w h.rg (hb.below h.below) hncap hz (fun ad ha hn => ?_) hfit).mono ?_
  · have hl := hb.lt ha hn
    exact ⟨by have := h.new; omega, fun e => by have := h.newR _ e; omega⟩
  · rintro e w' ⟨rfl, R', hR', hg, hk⟩
    refine ⟨rfl, R', ⟨h.below.trans (hk.below h.below.size (fun i hi => ?_)), hg, h.new, fun r e => ?_⟩, hk⟩
    · rcases hi with hi | hi
      · rw [hi]; exact h.new
      · exact h.newR _ hi
    · rcases hR' with e' | ⟨r', e', hr⟩
      · exact h.newR r (by rw [← e', e])
      · rw [e] at e'; cases e'; exact Nat.le_trans h.below.size hr

theorem nfork (g : Nat) (R : Option Nat) (s : RS) (i : Int) (w0 w : World) (h : In w0 w g R s) (hi : i ≠ 0) (hi' : i ≠ s.id) :
    Calls Try.prog 13 #[.pointer (some ⟨g, 0, none⟩), .int .u64 i] w fun e w' => e = .returned (.int .i64 0) ∧ In w0 w' g R (s.fork_ i) ∧ Kept (fun k => k = g) w w' := by
  refine (rfork g R s i w h.rg hi hi').mono ?_
  rintro e w' ⟨rfl, hg, hk⟩
  exact ⟨rfl, ⟨h.below.trans (hk.below h.below.size (fun i hi => by rw [hi]; exact h.new)), hg, h.new, h.newR⟩, hk⟩

theorem rcut (ap : Option Addr) (n cap : Nat) (w : World) (hz : 500 < n → ∃ ad, ap = some ad) (hc : n ≤ cap) :
    Calls Try.prog 11 #[.slice ap n cap] w fun e w' => e = .returned (.slice ap (min n 500) cap) ∧ w = w' := by
  by_cases h : 500 < n
  · obtain ⟨ad, rfl⟩ := hz h
    have e : min n 500 = 500 := by omega
    rw [e]
    go_enter Try.func11, Try.ntmps11
    go_wp2
    go_ret
    exact ⟨rfl, rfl⟩
  · have e : min n 500 = n := by omega
    rw [e]
    go_enter Try.func11, Try.ntmps11
    go_wp2
    go_ret
    exact ⟨rfl, rfl⟩

/-- The window is what the whole stream ends with. -/
structure St (s : RS) (all : List UInt8) : Prop where
  off : s.off = all.length
  first : s.first ≤ all.length
  L : s.L = all.drop s.first

theorem St.feed {s : RS} {all : List UInt8} (h : St s all) (b : List UInt8) : St (s.feed b) (all ++ b) := by
  have hl : s.L.length = all.length - s.first := by rw [h.L, List.length_drop]
  have hf := h.first
  refine ⟨by simp only [RS.feed, List.length_append, h.off], by simp only [RS.feed, List.length_append]; omega, ?_⟩
  simp only [RS.feed]
  rw [← List.drop_drop, List.drop_append_of_le_length hf, ← h.L]

theorem St.fork {s : RS} {all : List UInt8} (h : St s all) (i : Int) : St (s.fork_ i) all := ⟨h.off, h.first, h.L⟩

theorem St.drop {s : RS} {all : List UInt8} (h : St s all) (j : Nat) : s.L.drop j = all.drop (s.first + j) := by rw [h.L, List.drop_drop]
end Go.Proofs.Ytlaahdjdlekopaa
