/- The deque of ints: how it lies in memory, its length, its places. -/
import Derived.Test.YtnleffjheimmbaaProg
import Derived.Test.YtnleffjheimmbaaPlan
import Derived.Test.YtnleffjheimmbaaBase
import Derived.Test.YtnleffjheimmbaaRing
import Derived.BigQuiet
import Derived.WalkSpells
import Derived.KernelRfl
namespace Go.Proofs.Ytnleffjheimmbaa
open Go.RowKit

/-- The deque at block g holds the row L; its ring lies in block R. -/
def iDq (w : World) (g : Nat) (R : Option Nat) (L : List Int) : Prop :=
  ∃ (ad : Option Addr) (m c f : Nat),
    w.heap[g]? = some (.cells #[.slice ad m c, .int .i64 f, .int .i64 L.length] 35 (0, 0)) ∧ L.length ≤ m ∧ m ≤ 4000000 ∧ f ≤ 4000000 ∧
    ((m = 0 ∧ R = none) ∨ ∃ (r o : Nat) (cs : Array Value), ad = some ⟨r, o, none⟩ ∧ R = some r ∧ r ≠ g ∧ w.heap[r]? = some (.cells cs 3 (0, 0)) ∧ f < m ∧ Ring (fun u => (.int .i64 u : Value)) cs o m f L)

theorem iDq.len {w : World} {g : Nat} {R : Option Nat} {L : List Int} (h : iDq w g R L) : L.length ≤ 4000000 := by
  obtain ⟨ad, m, c, f, _, h1, h2, _⟩ := h; omega
theorem iDq.lt {w : World} {g : Nat} {R : Option Nat} {L : List Int} (h : iDq w g R L) : g < w.heap.size := by
  obtain ⟨ad, m, c, f, h0, _⟩ := h; exact lt_of_heap h0
theorem iDq.ring {w : World} {g : Nat} {R : Option Nat} {L : List Int} (h : iDq w g R L) {r : Nat} (hr : R = some r) : r < w.heap.size ∧ r ≠ g := by
  obtain ⟨ad, m, c, f, h0, h1, h2, h3, h4⟩ := h
  rcases h4 with ⟨_, h4⟩ | ⟨r', o, cs, e1, e2, e3, e4, rest⟩
  · rw [hr] at h4; cases h4
  · rw [hr] at e2; cases e2; exact ⟨lt_of_heap e4, e3⟩
theorem iDq.kept {S : Nat → Prop} {w w' : World} {g : Nat} {R : Option Nat} {L : List Int} (h : iDq w g R L) (hk : Kept S w w') (hg : ¬ S g) (hR : ∀ r, R = some r → ¬ S r) : iDq w' g R L := by
  obtain ⟨ad, m, c, f, h0, h1, h2, h3, h4⟩ := h
  refine ⟨ad, m, c, f, hk.heap h0 hg, h1, h2, h3, ?_⟩
  rcases h4 with h4 | ⟨r, o, cs, e1, e2, e3, e4, rest⟩
  · exact .inl h4
  · exact .inr ⟨r, o, cs, e1, e2, e3, hk.heap e4 (hR r e2), rest⟩
theorem iDq.drewN {w : World} {g : Nat} {R : Option Nat} {L : List Int} (h : iDq w g R L) (n : Nat) : iDq (w.drewN n) g R L := h
theorem iDq.alloc {w : World} {g : Nat} {R : Option Nat} {L : List Int} (h : iDq w g R L) (o : Obj) : iDq (w.alloc o) g R L :=
  h.kept ((Kept.refl NoBlock w).alloc o) (fun h => h) (fun _ _ h => h)

theorem ilen_nil (w : World) : Calls Try.prog 18 #[.pointer none] w fun e w' => e = .returned (.int .i64 0) ∧ w = w' := by
  go_enter Try.func18, Try.ntmps18
  go_wp2
  go_ret
  exact ⟨rfl, rfl⟩

theorem ilen_cell (g : Nat) (n : Int) (w : World) (h : w.cell? ⟨g, 2, none⟩ = some (.int .i64 n)) :
    Calls Try.prog 18 #[.pointer (some ⟨g, 0, none⟩)] w fun e w' => e = .returned (.int .i64 n) ∧ w = w' := by
  go_enter Try.func18, Try.ntmps18
  go_wp2
  go_ret
  exact ⟨rfl, rfl⟩

theorem ilen_dq (g : Nat) (R : Option Nat) (L : List Int) (w : World) (h : iDq w g R L) :
    Calls Try.prog 18 #[.pointer (some ⟨g, 0, none⟩)] w fun e w' => e = .returned (.int .i64 L.length) ∧ w = w' := by
  obtain ⟨ad, m, c, f, h0, _⟩ := h
  exact ilen_cell g L.length w (blk3 h0).2.2.1

theorem iplace_cell (g f i m c j : Nat) (ad : Option Addr) (k : Int) (w : World) (h0 : w.cell? ⟨g, 0, none⟩ = some (.slice ad m c)) (h1 : w.cell? ⟨g, 1, none⟩ = some (.int .i64 f))
    (hm : 0 < m) (hm' : m ≤ 4000000) (hf : f ≤ 4000000) (hi' : i ≤ 4000000) (hk : k = i) (hj : Hid ((f + i) % m = j)) :
    Calls Try.prog 37 #[.pointer (some ⟨g, 0, none⟩), .int .i64 k] w fun e w' => e = .returned (.int .i64 j) ∧ ∃ k, w' = w.drewN k := by
  subst hk
  go_enter Try.func37, Try.ntmps37
  go_wp2
  go_quiet (fail)
  go_wp2
  go_ret
  exact ⟨by rw [← hj.out]; simp, _, rfl⟩

/-- What the walk wants of the deque, to read its k-th value. -/
theorem iDq.at {w : World} {g : Nat} {R : Option Nat} {L : List Int} (h : iDq w g R L) {k : Nat} (hk : k < L.length) :
    ∃ (m c f r o j : Nat), w.cell? ⟨g, 0, none⟩ = some (.slice (some ⟨r, o, none⟩) m c) ∧ w.cell? ⟨g, 1, none⟩ = some (.int .i64 f) ∧ w.cell? ⟨g, 2, none⟩ = some (.int .i64 L.length) ∧
      0 < m ∧ m ≤ 4000000 ∧ f ≤ 4000000 ∧ Hid ((f + k) % m = j) ∧ j < m ∧ w.cell? ⟨r, o + j, none⟩ = some (.int .i64 L[k]) := by
  obtain ⟨ad, m, c, f, h0, h1, h2, h3, h4⟩ := h
  rcases h4 with h4 | ⟨r, o, cs, e1, e2, e3, e4, e5, e6⟩
  · omega
  · subst e1
    have b := blk3 h0
    exact ⟨m, c, f, r, o, _, b.1, b.2.1, b.2.2.1, by omega, h2, h3, rfl, Nat.mod_lt _ (by omega), cellB e4 (e6.row k hk)⟩
end Go.Proofs.Ytnleffjheimmbaa
