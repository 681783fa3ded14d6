/- 'millpondlaw06.DequeRuns' returns true for every input, and leaves the input as it was. -/
import Derived.Test.YtnleffjheimmbaaLaws
import Derived.Test.YtnleffjheimmbaaRuns
import Derived.Lib.SmallJoins
namespace Go.Proofs.Ytnleffjheimmbaa.dequeRuns
open Go.ChangeShapes Go.WideShapes Go.ChangeAt Go.RowKit Go.Joins

theorem cells_op : Try.prog.cellsOf 48 = 4 := by kernel_rfl

theorem cells_four {w : World} {a : Addr} {c0 c1 c2 c3 : Value} (h : w.cells? 0 a 4 = some [c0, c1, c2, c3]) : w.cell? a = some c0 ∧ w.cell? (a.add 1) = some c1 ∧ w.cell? (a.add 2) = some c2 ∧ w.cell? (a.add 3) = some c3 := by
  have h0 : a.add 0 = a := by simp [Addr.add]
  simp only [World.cells?, Nat.zero_le, if_true, show List.range 4 = [0, 1, 2, 3] from rfl, List.mapM_cons, List.mapM_nil, h0] at h
  cases e0 : w.cell? a <;> cases e1 : w.cell? (a.add 1) <;> cases e2 : w.cell? (a.add 2) <;> cases e3 : w.cell? (a.add 3) <;> simp_all

theorem ops_holds {H : Type} {enc : TypeId × Value → H} {W : World} {fuel : Nat} {a0 : Option Addr} {len cap : Nat} {d : DataW H} {p : List MemPlace}
    (h : DataW.trod enc Try.prog W 0 (fun _ => true) true fuel 42 [.slice a0 len cap] = some (d, p)) : Ops W a0 len := by
  rcases DataW.trod_slice Try.underlying42 h with ⟨hcs, _⟩ | ⟨a, len', cap', elems, rest, n, _, hcs, hx, hb, hl, hm, hlen, hel, _, _⟩
  · simp at hcs
    obtain ⟨rfl, rfl, rfl⟩ := hcs
    exact fun j hj => by omega
  · simp at hcs
    obtain ⟨rfl, rfl, rfl⟩ := hcs
    intro j hj
    have he := hel j hj
    rw [List.getElem?_eq_getElem (by omega), Option.bind_eq_some_iff] at he
    obtain ⟨cs, hcs, hy⟩ := he
    obtain ⟨y0, y1, y2, y3, m, _, hn4, f0, f1, f2, f3⟩ := trod_struct4 Try.underlying48 hy
    rw [cells_op] at hn4 hcs
    match cs, hn4 with
    | [c0, c1, c2, c3], _ =>
      obtain ⟨k0, k1, k2, k3⟩ := cells_four hcs
      have t3 : Try.prog.cellsOf 3 = 1 := by kernel_rfl
      have t9 : Try.prog.cellsOf 9 = 1 := by kernel_rfl
      simp only [t3, t9, List.drop_zero, List.drop_succ_cons, List.take_succ_cons, List.take_zero] at f0 f1 f2 f3
      obtain ⟨i0, e0, _⟩ := DataW.trod_int Try.underlying3 f0
      obtain ⟨i1, e1, _⟩ := DataW.trod_int Try.underlying3 f1
      obtain ⟨i2, e2, _⟩ := DataW.trod_int Try.underlying3 f2
      obtain ⟨s, e3, _⟩ := DataW.trod_string Try.underlying9 f3
      injection e0 with e0; injection e1 with e1; injection e2 with e2; injection e3 with e3
      subst e0; subst e1; subst e2; subst e3
      exact ⟨a, i0, i1, i2, s, rfl, k0, k1, k2, k3⟩

theorem contract (H : Type) (enc : TypeId × Value → H) (W : World) (base : Nat) (args : Array Value) (ds gs : List (DataW H)) (before : List MemPlace)
    (hval0 : ∀ (j : Nat) t v, Try.f6.params[j]? = some t → args[j]? = some v → Value.okWide Try.prog W .any base t v)
    (hW : DataW.Whole enc Try.prog Try.f6.params.toList Rows.dequeRunsSpec.vars false W args.toList ds gs before) :
    Calls Try.prog 6 args W fun e W' => ∃ v, e = .returned v ∧ Rows.dequeRunsSpec.post enc Try.prog Try.f6 false true false false W args v W' := by
  have hval := hval0
  have hW' := hW
  obtain ⟨p, q, hA0, hV, rfl, hfz, hnd⟩ := hW
  have hA : DataW.TrodAll enc Try.prog W 0 (fun _ => true) true Try.f6.params.toList args.toList ds p := hA0
  rw [Try.params6] at hA hval
  obtain ⟨v0, v1, d0, d1, p0, p1, rfl, rfl, rfl, h0, h1⟩ := trodAll_two hA
  obtain ⟨rfl, rfl⟩ := trodVars_none hV
  obtain ⟨a0, len, cap, rfl⟩ := okWide_slice Try.underlying22 (hval 0 22 v0 rfl rfl)
  obtain ⟨ao, no, co, rfl⟩ := okWide_slice Try.underlying42 (hval 1 42 v1 rfl rfl)
  obtain ⟨fuel, hf⟩ := h0
  obtain ⟨fuel1, hf1⟩ := h1
  obtain ⟨ss, hH, hlc, hz⟩ := strings_holds (by simpa [Value.cells] using hf)
  have hO : Ops W ao no := ops_holds (by simpa [Value.cells] using hf1)
  have fin : ∀ W', Below W.heap.size W W' → Rows.dequeRunsSpec.post enc Try.prog Try.f6 false true false false W #[.slice a0 len cap, .slice ao no co] (.bool true) W' := fun W' hB =>
    law_post hW' laidOut (by kernel_rfl) Try.underlying4 rfl (by rw [Try.params6]; intro t ht; simp at ht; rcases ht with rfl | rfl <;> exact ⟨by kernel_rfl, of_decide_eq_true (by kernel_rfl)⟩) rfl rfl rfl hB
  by_cases hn : 300 < len
  · refine (runs_long a0 len cap (ss.take 300) ao no co W ?_ hlc hz hO hn).mono fun e W' ⟨he, hB⟩ => ⟨_, he, fin W' hB⟩
    have := hH.take 300
    rw [← List.map_take, List.length_map] at this
    rwa [show (ss.take 300).length = 300 by have := hH.1; rw [List.length_map] at this; rw [List.length_take]; omega] at this
  · exact (runs_short a0 len cap ss ao no co W hH hlc hz hO (by omega)).mono fun e W' ⟨he, hB⟩ => ⟨_, he, fin W' hB⟩

set_option maxRecDepth 100000 in
theorem lifted (os : Os) (started : os.Started) (H : Type) (enc : TypeId × Value → H) :
    ReturnsInHanded {} Try.checked os 6 .any (Rows.dequeRunsSpec.pre6 enc Try.prog Try.f6 Rows.dequeRunsRow.domain false) (Rows.dequeRunsSpec.post enc Try.prog Try.f6 false true false false) := by
  refine returnsInHanded_of_change (C := Try.checked) own started (by kernel_rfl) Try.func6
    (ChangeSpec.witness6 (enc := enc) (C := Try.checked) false ⟨#[], #[.slice none 0 0, .slice none 0 0], []⟩ 8 (by kernel_rfl) (by kernel_rfl) (by kernel_rfl) (by kernel_rfl)) ?_
  intro W base args ds gs before hval hW _ _
  exact contract H enc W base args ds gs before hval hW

theorem proved : Rows.DequeRunsSaid :=
  OpenClaim.holds_of_wide 6 Try.f6 rfl rfl rfl rfl rfl rfl rfl ⟨rfl, rfl, rfl, rfl, rfl⟩ rfl rfl rfl rfl rfl (by kernel_rfl) Try.func6 (by kernel_rfl)
    (of_decide_eq_true (by kernel_rfl)) (by unfold Func.isWrapper; first | (rw [if_pos (by decide +kernel)]; kernel_rfl) | (rw [if_neg (by decide +kernel)]; exact ⟨rfl, rfl⟩))
    (fun os started H enc _ => lifted os started H enc)
end Go.Proofs.Ytnleffjheimmbaa.dequeRuns
