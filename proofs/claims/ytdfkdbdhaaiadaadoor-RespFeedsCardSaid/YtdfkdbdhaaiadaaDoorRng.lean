/- A range over a function whose iterator writes old memory, with a body that never leaves. For any program. -/
import Derived.Test.YtdfkdbdhaaiadaaDoorBase
import Derived.RangeFuncNested
import Derived.RangeFuncBound
import Derived.RangeFuncCalls
import Derived.RangeFuncLeaves
import Derived.RangeFuncBox
namespace Go.Proofs.YtdfkdbdhaaiadaaDoor
open Go.RowKit

/-- A predicate that abides the turn of a block that is no cells, from B on. -/
def Steady (B : Nat) (I : World → Prop) : Prop := ∀ (W : World) (l : Nat) (o o' : Obj), B ≤ l → W.heap[l]? = some o → o.isCells = false → I W → I (W.putObj l o')

theorem Kept.putObj {S : Nat → Prop} {w W : World} (h : Kept S w W) {l : Nat} (o' : Obj) (hl : l < w.heap.size → S l) : Kept S w (W.putObj l o') :=
  ⟨h.os, h.tape, h.output, by rw [World.putObj_size]; exact h.size, fun k hk hn => by
    have hne : k ≠ l := fun e => hn (e ▸ hl (e ▸ hk))
    rw [World.putObj_heap_other hne]; exact h.block k hk hn⟩

/-- What a round leaves that goes on. -/
def roundEnd {α : Type} (B : Nat) (S : Nat → Prop) (C : List α → World → Prop) (xs : List α) (W : World) : Exit → Act → World → Prop
  | .normal, _, W' => KeepsFrom B W W' ∧ Kept S W W' ∧ C xs W'
  | _, _, _ => False

theorem wpIn_rangeFunc_st {α : Type} {F : Fence} {n : Nat} {P : Program} {g : Operand} {ps : Array Tmp} {assign body : Code} {Q : Exit → Act → World → Prop} {a : Act} {w : World}
    (hro : F.round = none) (h1 : 1 ≤ n) {gf : Nat} {lb : Array Value} (hg : a.eval g = .func (.func gf) #[] lb) (hFg : F.fn gf) (eg : ∀ args w, (callFunc gf args).run P w = .ok (.enter gf args) w)
    (encs : α → Array Value) (hps : ∀ x, (encs x).size = ps.size) (S : Nat → Prop) (hS : ∀ k, w.heap.size ≤ k → S k)
    (C : List α → World → Prop) (hC : ∀ out, Steady w.heap.size (C out)) (A : List α → α → World → Prop) (hA : ∀ out x, Steady w.heap.size (A out x)) (Fin : World → Prop) (hFin : Steady w.heap.size Fin)
    (hiter : ∀ (l : Nat) (Bk : World → Prop), (∀ W W', Bk W → Kept (fun k => k < w.heap.size) W W' → Bk W') →
      (∀ out x W1, Bk W1 → C out W1 → A out x W1 → YieldAt F (n - 1 - 1) P l (encs x) W1 fun e W' => e = .returned (.bool true) ∧ Bk W' ∧ Kept S W1 W' ∧ C (out ++ [x]) W') →
      ∀ W, Bk W → Kept NoBlock w W → C [] W → CallsIn F (n - 1) P gf (#[.func (.yield l) #[] #[]] ++ lb) W fun e W' => (∃ v, e = .returned v) ∧ Bk W' ∧ Fin W')
    (h0 : ∀ W, Kept NoBlock w W → C [] W) (a₁ : α → Act)
    (hassign : ∀ (l : Nat) (x : α) (W : World) (K : Act → World → Prop), K (a₁ x) W →
      assign.wpIn (F.inRound l) (n - 1 - 1) P (Exit.then K (fun _ _ _ => False)) { tmps := (ps.zip (encs x)).foldl (fun t (p, v) => t.setIfInBounds p v) a.tmps, defers := [] } W)
    (hbody : ∀ (l : Nat) (out : List α) (x : α) (W : World), w.heap.size ≤ l → C out W → A out x W → body.wpIn (F.inRound l) (n - 1 - 1) P (roundEnd w.heap.size S C (out ++ [x]) W) (a₁ x) W)
    (hdone : ∀ (D : Nat) (W : World), w.heap.size ≤ D → Fin W → W.heap[D]? = some (.deferred (some [])) → Q .normal { a with defers := { target := .collected D, args := #[] } :: a.defers } W) :
    (Code.rangeFunc g ps assign body).wpIn F n P Q a w := by
  refine wpIn_rangeFunc ?_
  intro fn hfn
  rw [hro]
  obtain ⟨rec, hrec⟩ : ∃ rec : LoopState → Option Code → Loop, rec = fun st pe => { state := st, pending := pe, fn, tmps := a.tmps, params := ps, assign, body, defers := w.heap.size } := ⟨_, rfl⟩
  obtain ⟨W1, hW1⟩ : ∃ W1, (w.alloc (.deferred (some []))).alloc (.loop (rec .ready none)) = W1 := ⟨_, rfl⟩
  have hL1 : W1.heap[w.heap.size + 1]? = some (.loop (rec .ready none)) := by
    rw [← hW1]; have := World.alloc_heap_new (w.alloc (.deferred (some []))) (.loop (rec .ready none)); rwa [World.size_alloc] at this
  have hK1 : W1.heap[w.heap.size]? = some (.deferred (some [])) := by
    rw [← hW1]; exact (Below.heap_alloc _ _ _ (by simp)).trans (World.alloc_heap_new w _)
  have hb1 : Kept NoBlock w W1 := by rw [← hW1]; exact ((Kept.refl _ w).alloc _).alloc _
  refine ⟨w.heap.size + 1, [{ target := .collected w.heap.size, args := #[] }], W1, { target := .fn (.func gf) lb, args := #[.func (.yield (w.heap.size + 1)) #[] #[]] }, W1, gf,
    #[.func (.yield (w.heap.size + 1)) #[] #[]] ++ lb, W1, ?_, ?_, ?_, ?_, fun _ => h1, ?_⟩
  · rw [← hW1, hrec]; exact run_enterLoop_outer _ _ _ _ _
  · simp only [resolve, hg]
    simp [go_sem]
  · intro f' hf'; simp [Target.leads] at hf'; subst hf'; exact hFg
  · simp [invoke, go_sem, eg]
  · refine (hiter (w.heap.size + 1) (fun W => W.heap[w.heap.size + 1]? = some (.loop (rec .ready none)) ∧ W.heap[w.heap.size]? = some (.deferred (some [])))
      (fun W W' hb hk => ⟨hk.heap hb.1 (by omega), hk.heap hb.2 (by omega)⟩) ?_ W1 ⟨hL1, hK1⟩ hb1 (h0 W1 hb1)).mono ?_
    · rintro out x W ⟨hl, hk⟩ hc ha
      have hlt : w.heap.size + 1 < W.heap.size := (Array.getElem?_eq_some_iff.1 hl).1
      have hy := run_yield (P := P) (args := encs x) hl (by rw [hrec]; exact hps x)
      rw [hrec] at hy
      refine ⟨fn, _, assign, body, hy, roundIn_of_wpIn hfn (hassign _ x W _ ?_)⟩
      clear hy
      refine ⟨_, run_beginRound hl (by rw [hrec]), ?_⟩
      have hl2 : (W.putObj (w.heap.size + 1) (.loop { rec .ready none with state := .busy })).heap[w.heap.size + 1]? = some (.loop { rec .ready none with state := .busy }) := World.putObj_heap_same hlt
      have hk2 : (W.putObj (w.heap.size + 1) (.loop { rec .ready none with state := .busy })).heap[w.heap.size]? = some (.deferred (some [])) := (World.putObj_heap_other (by omega)).trans hk
      refine wpIn_mono (hbody _ out x _ (by omega) (hC out _ _ _ _ (by omega) hl rfl hc) (hA out x _ _ _ _ (by omega) hl rfl ha)) ?_
      rintro e a3 W3 hp
      cases e with
      | normal =>
        obtain ⟨hk3, hkp3, hi3⟩ := hp
        have hl3 := hk3.same _ _ (by omega) hl2 rfl
        have hr := run_endRound (P := P) none hl3
        rw [hrec] at hr
        have hkp : Kept S W (W.putObj (w.heap.size + 1) (.loop { rec .ready none with state := .busy })) := (Kept.refl S W).putObj _ (fun _ => hS _ (by omega))
        refine ⟨_, _, hr, rfl, ⟨?_, (World.putObj_heap_other (by omega)).trans (hk3.same _ _ (Nat.le_refl _) hk2 rfl)⟩, (hkp.trans hkp3).putObj _ (fun _ => hS _ (by omega)), hC _ _ _ _ _ (by omega) hl3 rfl hi3⟩
        rw [hrec]
        exact World.putObj_heap_same (Array.getElem?_eq_some_iff.1 hl3).1
      | ret => exact hp.elim
      | exit id => exact hp.elim
      | goto t => exact hp.elim
      | panic ch => exact hp.elim
      | outgrown => exact hp.elim
    · rintro e W2 ⟨⟨v, rfl⟩, ⟨hl, hk⟩, hf⟩
      exact ⟨none, _, by have := run_endLoop (P := P) hl (by rw [hrec]; simp); rw [hrec] at this; exact this, hdone _ _ (Nat.le_refl _) (hFin _ _ _ _ (by omega) hl rfl hf) ((World.putObj_heap_other (by omega)).trans hk)⟩
end Go.Proofs.YtdfkdbdhaaiadaaDoor
