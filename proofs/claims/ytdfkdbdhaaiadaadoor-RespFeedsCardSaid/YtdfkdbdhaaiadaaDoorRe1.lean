/- A reader of requests: what it takes off. -/
import Derived.Test.YtdfkdbdhaaiadaaDoorProg
import Derived.Test.YtdfkdbdhaaiadaaDoorMem
import Derived.Test.YtdfkdbdhaaiadaaDoorSp1
import Derived.Test.YtdfkdbdhaaiadaaDoorN2
import Derived.Deep.QuietTactic
import Derived.BigQuiet
import Derived.RegionTactic
import Derived.ChangeAlike
import Derived.BigRegion
import Derived.WalkSpells
import Derived.WalkLawsBesides
import Derived.KernelRfl
import Derived.Outline
namespace Go.Proofs.YtdfkdbdhaaiadaaDoor
open Go.RowKit
attribute [local go_sem] fold_part fold_some fold_some' partAt_zero

/-- The reader at block g: what is left lies in block B, and so many bytes were taken. -/
def RdAt (w : World) (g : Nat) (B : Option Nat) (l : List UInt8) (u : Nat) : Prop :=
  ∃ v, w.heap[g]? = some (.cells #[v, .int .i64 u] 57 (0, 0)) ∧ BytesV w v l ∧ vblk v = B ∧ B ≠ some g

theorem blk2 {w : World} {g : Nat} {a b : Value} {T : TypeId} (h : w.heap[g]? = some (.cells #[a, b] T (0, 0))) :
    w.cell? ⟨g, 0, none⟩ = some a ∧ w.cell? ⟨g, 1, none⟩ = some b ∧ w.frozen? ⟨g, 0, none⟩ = false ∧ w.frozen? ⟨g, 1, none⟩ = false :=
  ⟨cellB h rfl, cellB h rfl, frozenB h 0, frozenB h 1⟩

set_option maxHeartbeats 800000 in
theorem pskip (g : Nat) (B : Option Nat) (l : List UInt8) (u n : Nat) (w : World) (h : RdAt w g B l u) (hn : n ≤ l.length) (hlu : u + l.length ≤ 100000000) :
    Calls Tryd.prog 43 #[.pointer (some ⟨g, 0, none⟩), .int .i64 n] w fun e w' => ∃ v, e = .returned v ∧ BytesV w' v (l.take n) ∧ vblk v = B ∧ RdAt w' g B (l.drop n) (u + n) ∧ Kept (fun k => k = g) w w' := by
  have hl : l.length ≤ 100000000 := by omega
  have hu : u ≤ 100000000 := by omega
  clear hlu
  obtain ⟨v, hg, hv, hB, hBg⟩ := h
  obtain ⟨ap, cap, rfl, hc1, hc2⟩ := hv.parts
  obtain ⟨c0, c1, f0, f1⟩ := blk2 hg
  have HV := Lib.hid hv
  have HB := Lib.hid hB
  have HG := Lib.hid hg
  have HN := Lib.hid hBg
  clear hv hB hBg hc2 hg
  generalize l.length = len at *
  go_enter Tryd.func43, Tryd.ntmps43
  go_wp2
  go_region
  all_goals go_wp2
  go_ret
  obtain ⟨h1, h2⟩ := two_stores (x := .slice (partAt ap n cap) (len - n) (cap - n)) (y := .int .i64 ((u : Int) + n)) HG.out
  have h3 : ∀ b, vblk (.slice ap len cap) = some b → ¬ (b = g) := fun b e1 e2 => HN.out (by rw [← HB.out, e1, e2])
  have h4 := BytesV.kept (HV.out.front n hn) h2 (fun b e => h3 b (by rw [← e, vblk_slice, vblk_slice]))
  have h5 := BytesV.kept (HV.out.tail n hn) h2 (fun b e => h3 b (by rw [← e, partAt_blk]))
  exact ⟨.slice ap n cap, rfl, h4, (vblk_slice _ _ _).trans ((vblk_slice ap len cap).symm.trans HB.out), ⟨_, h1, h5, partAt_blk.trans HB.out, HN.out⟩, h2.drew⟩

/-- What the library's variables hold, from the first world W0 on. -/
structure Env (W0 w : World) : Prop where
  vs : Vs W0
  below : Below W0.heap.size W0 w
theorem Env.now {W0 w : World} (h : Env W0 w) : Vs w := h.vs.below h.below
theorem Env.step {W0 w w' : World} {S : Nat → Prop} (h : Env W0 w) (hk : Kept S w w') (hS : ∀ k, k < W0.heap.size → ¬ S k) : Env W0 w' :=
  ⟨h.vs, ⟨hk.os.trans h.below.os, hk.tape.trans h.below.tape, hk.output.trans h.below.output, Nat.le_trans h.below.size hk.size, fun k hk1 => (hk.block k (Nat.lt_of_lt_of_le hk1 h.below.size) (hS k hk1)).trans (h.below.block k hk1)⟩⟩

theorem Env.drewN {W0 w : World} (h : Env W0 w) (n : Nat) : Env W0 (w.drewN n) := ⟨h.vs, ⟨h.below.os, h.below.tape, h.below.output, h.below.size, h.below.block⟩⟩

theorem bytesOf_nats (l : List UInt8) : Lib.bytesOf (l.map fun b => (b.toNat : Int)) = l := by
  induction l with
  | nil => rfl
  | cons b l ih =>
    simp only [Lib.bytesOf, List.map_cons] at ih ⊢
    rw [ih]
    simp

theorem pidx (v : Value) (l : List UInt8) (c : UInt8) (k : Int) (hk : k = c.toNat) (w : World) (h : BytesV w v l) :
    Calls Tryd.prog 42 #[v, .int .u8 k] w fun e w' => e = .returned (.int .i64 (Lib.indexByte l c)) ∧ w' = w := by
  subst hk
  obtain ⟨ap, cap, rfl, hc, hn⟩ := h.parts
  have ec : ((c.toNat : Int)).toNat.toUInt8 = c := by simp
  cases ap with
  | none =>
    obtain rfl := hn rfl
    have hl : l = [] := List.eq_nil_of_length_eq_zero (by omega)
    subst hl
    exact Tryd.bytes_IndexByte_nil _ w
  | some ad =>
    have := Tryd.bytes_IndexByte_at ad l.length cap (l.map fun b => (b.toNat : Int)) (c.toNat : Int) w (by simp) (fun i hi => by
      obtain ⟨ad', e, h1⟩ := RowV.cell h (i := i) (v := bv l[i]) (by simp [hi])
      cases e
      rw [h1]
      simp [hi, bv])
    rw [bytesOf_nats, ec] at this
    exact this

end Go.Proofs.YtdfkdbdhaaiadaaDoor
