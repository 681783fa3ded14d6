/- A deque and the document's row, side by side: what a step of either leaves. -/
import Derived.Test.YtnleffjheimmbaaRow2
import Derived.Test.YtnleffjheimmbaaSameDq
import Derived.Test.YtnleffjheimmbaaDq13s
namespace Go.Proofs.Ytnleffjheimmbaa
open Go.RowKit Go.Shelf

/-- From B on: a deque at g, its ring R, a row at b with its slice v; what lay below B in w0 lies as it lay. -/
structure Rn (w0 w : World) (g b : Nat) (R : Option Nat) (v : Value) (B : Nat) (Ld Lr : List ByteArray) : Prop where
  dq : sDq w g R Ld
  rw : Rw w b B v Lr
  ne : ∀ r, R = some r → v.ownBlock ≠ some r
  bg : B ≤ g
  bb : B ≤ b
  br : ∀ r, R = some r → B ≤ r
  bl : Below B w0 w

theorem sDq.head {w : World} {g : Nat} {R : Option Nat} {L : List ByteArray} (h : sDq w g R L) : ∃ cs, w.heap[g]? = some (.cells cs 62 (0, 0)) := by
  obtain ⟨ad, m, c, f, h0, _⟩ := h; exact ⟨_, h0⟩
theorem sDq.ringT {w : World} {g r : Nat} {R : Option Nat} {L : List ByteArray} (h : sDq w g R L) (e : R = some r) : ∃ cs, w.heap[r]? = some (.cells cs 9 (0, 0)) := by
  obtain ⟨ad, m, c, f, h0, _, _, _, h4⟩ := h
  rcases h4 with ⟨_, h4⟩ | ⟨r', o, cs, e1, e2, e3, e4, _⟩
  · rw [e] at h4; cases h4
  · rw [e] at e2; cases e2; exact ⟨_, e4⟩
theorem Rw.rowT {w : World} {b B k : Nat} {v : Value} {L : List ByteArray} (h : Rw w b B v L) (e : v.ownBlock = some k) : (∃ cs, w.heap[k]? = some (.cells cs 9 (0, 0))) ∧ B ≤ k := by
  rcases h.2.2 with ⟨e1, _⟩ | ⟨g, cap, cur, e1, e2, e3, _⟩
  · rw [e1] at e; cases e
  · rw [e1] at e; cases e; exact ⟨⟨_, e3⟩, e2⟩
theorem typesNe {w : World} {a b : Nat} {cs ds : Array Value} {S T : TypeId} {x y : Nat × Nat} (h : w.heap[a]? = some (.cells cs S x)) (k : w.heap[b]? = some (.cells ds T y)) (hne : S ≠ T) : a ≠ b := by
  rintro rfl
  rw [h] at k
  injection k with k
  injection k with k1 k2 k3
  exact hne k2

section
variable {w0 w w2 : World} {g b B : Nat} {R R' : Option Nat} {v v' : Value} {Ld Lr L' : List ByteArray}

/-- A block of another type than the two and their rows is written by no step of theirs. -/
theorem Rn.offD (h : Rn w0 w g b R v B Ld Lr) (hR : ∀ r, R' = some r → R = some r ∨ w.heap.size ≤ r) {p : Nat} {cs : Array Value} {T : TypeId} {z : Nat × Nat} (hp : w.heap[p]? = some (.cells cs T z)) (h1 : T ≠ 62) (h2 : T ≠ 9) :
    ¬ (p = g ∨ R = some p ∨ R' = some p) := by
  rintro (e | e | e)
  · obtain ⟨_, hg⟩ := h.dq.head
    exact typesNe hp hg h1 e
  · obtain ⟨_, hr⟩ := h.dq.ringT e
    exact typesNe hp hr h2 rfl
  · rcases hR p e with e | e
    · obtain ⟨_, hr⟩ := h.dq.ringT e
      exact typesNe hp hr h2 rfl
    · have := lt_of_heap hp; omega
theorem Rn.offR (h : Rn w0 w g b R v B Ld Lr) {p : Nat} {cs : Array Value} {T : TypeId} {z : Nat × Nat} (hp : w.heap[p]? = some (.cells cs T z)) (h1 : T ≠ 45) (h2 : T ≠ 9) :
    ¬ (p = b ∨ v.ownBlock = some p) := by
  rintro (e | e)
  · exact typesNe hp h.rw.1 h1 e
  · obtain ⟨⟨_, hr⟩, _⟩ := h.rw.rowT e
    exact typesNe hp hr h2 rfl

theorem Rn.dstep (h : Rn w0 w g b R v B Ld Lr) (hD : sDq w2 g R' L') (hR : ∀ r, R' = some r → R = some r ∨ w.heap.size ≤ r) (hk : Kept (fun k => k = g ∨ R = some k ∨ R' = some k) w w2) : Rn w0 w2 g b R' v B L' Lr := by
  have hgl := h.dq.lt
  have hB : B ≤ w.heap.size := by have := h.bg; omega
  have hR' : ∀ r, R' = some r → B ≤ r := by
    intro r e
    rcases hR r e with e | e
    · exact h.br r e
    · omega
  refine ⟨hD, ⟨hk.heap h.rw.1 (h.offD hR h.rw.1 (by decide) (by decide)), h.rw.2.1, ?_⟩, ?_, h.bg, h.bb, hR', h.bl.trans (hk.below hB ?_)⟩
  · rcases h.rw.2.2 with h' | ⟨q, cap, cur, e1, e2, e3, rest⟩
    · exact .inl h'
    · refine .inr ⟨q, cap, cur, e1, e2, hk.heap e3 ?_, rest⟩
      rintro (e | e | e)
      · obtain ⟨_, hg⟩ := h.dq.head
        exact typesNe e3 hg (by decide) e
      · exact h.ne q e (by rw [e1]; rfl)
      · rcases hR q e with e | e
        · exact h.ne q e (by rw [e1]; rfl)
        · have := lt_of_heap e3; omega
  · intro r e e'
    rcases hR r e with e1 | e1
    · exact h.ne r e1 e'
    · obtain ⟨⟨_, hr⟩, _⟩ := h.rw.rowT e'
      have := lt_of_heap hr; omega
  · rintro i (e | e | e)
    · rw [e]; exact h.bg
    · exact h.br i e
    · exact hR' i e

theorem Rn.rstep (h : Rn w0 w g b R v B Ld Lr) (hw : Rw w2 b B v' L') (hv : ∀ k, v'.ownBlock = some k → v.ownBlock = some k ∨ w.heap.size ≤ k) (hk : Kept (fun k => k = b ∨ v.ownBlock = some k) w w2) : Rn w0 w2 g b R v' B Ld L' := by
  have hgl := h.dq.lt
  have hB : B ≤ w.heap.size := by have := h.bg; omega
  refine ⟨h.dq.kept hk ?_ ?_, hw, ?_, h.bg, h.bb, h.br, h.bl.trans (hk.below hB ?_)⟩
  · obtain ⟨_, hg⟩ := h.dq.head
    exact h.offR hg (by decide) (by decide)
  · rintro r e (e' | e')
    · obtain ⟨_, hr⟩ := h.dq.ringT e
      exact typesNe hr h.rw.1 (by decide) e'
    · exact h.ne r e e'
  · intro r e e'
    rcases hv r e' with e1 | e1
    · exact h.ne r e e1
    · have := (h.dq.ring e).1; omega
  · rintro i (e | e)
    · rw [e]; exact h.bb
    · exact (h.rw.rowT e).2

theorem Rn.kept (h : Rn w0 w g b R v B Ld Lr) (hk : Kept NoBlock w w2) : Rn w0 w2 g b R v B Ld Lr :=
  h.dstep (h.dq.kept hk (fun h => h) (fun _ _ h => h)) (fun r e => .inl e) (hk.mono (fun _ _ h => h.elim))
end
end Go.Proofs.Ytnleffjheimmbaa
