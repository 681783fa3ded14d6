/- Merged: 'millpond/millpondlaw03.ReplyPieces' returns true for every input whose bulk is not too great, and leaves the input as it was. -/
import Derived.Test.YtpekeilpdbdnnaaDoorYb2z
import Derived.Test.YtpekeilpdbdnnaaDoorYu1z
import Derived.Lib.SmallJoins
import Derived.Test.YtpekeilpdbdnnaaDoorYLaidz
import Derived.Test.YtpekeilpdbdnnaaDoorRLawsz
import Derived.Test.YtpekeilpdbdnnaaDoorTie
import Derived.Test.YtpekeilpdbdnnaaDoorCards
import Derived.SevenTiedAt
import Derived.Deep.DeepHandedRow
set_option linter.all false
namespace Go.Proofs.YtpekeilpdbdnnaaDoor.replyPieces
open Go.ChangeShapes Go.WideShapes Go.ChangeAt Go.RowKit Go.Joins

theorem noHandles {W : World} (h : laidMetH Tryd.prog Rows.replyPiecesUptoRow.laid W) : laidMet Tryd.prog laidL W := by
  unfold laidMetH at h
  have e : (Rows.replyPiecesUptoRow.laid.filter fun x => x.2.handleName?.isSome) = [] := by kernel_rfl
  rw [e] at h
  exact h

set_option maxRecDepth 100000 in
theorem contract (H : Type) (enc : TypeId × Value → H) (W : World) (base : Nat) (args : Array Value) (ds gs : List (DataW H)) (before : List MemPlace)
    (hval0 : ∀ (j : Nat) t v, Tryd.f8.params[j]? = some t → args[j]? = some v → Value.okWide Tryd.prog W .any base t v)
    (hW : DataW.Whole enc Tryd.prog Tryd.f8.params.toList Rows.replyPiecesSpec.vars false W args.toList ds gs before) (hL : laidMet Tryd.prog laidL W) (hk : Rows.uptoSmall H (ds ++ gs) = true) :
    Calls Tryd.prog 8 args W fun e W' => ∃ v, e = .returned v ∧ Rows.replyPiecesSpec.post enc Tryd.prog Tryd.f8 false true false false W args v W' := by
  have hval := hval0
  have hW' := hW
  obtain ⟨p, q, hA0, hV, rfl, hfz, hnd⟩ := hW
  have hA : DataW.TrodAll enc Tryd.prog W 0 (fun _ => true) true Tryd.f8.params.toList args.toList ds p := hA0
  rw [Tryd.params8] at hA hval
  obtain ⟨v0, vs0, d0, ds0, p0, q0, hargs, rfl, rfl, h0, r0⟩ := trodAll_cons hA
  obtain ⟨v1, vs1, d1, ds1, p1, q1, rfl, rfl, rfl, h1, r1⟩ := trodAll_cons r0
  obtain ⟨v2, vs2, d2, ds2, p2, q2, rfl, rfl, rfl, h2, r2⟩ := trodAll_cons r1
  obtain ⟨rfl, rfl, rfl⟩ := trodAll_nil r2
  obtain rfl : args = #[v0, v1, v2] := by cases args; simp_all
  obtain ⟨rfl, rfl⟩ := trodVars_none hV
  have hbulk : Rows.uptoBulkAll ([d0, d1, d2] : List (DataW H)) ≤ 1048576 := of_decide_eq_true hk
  simp only [Rows.uptoBulkAll] at hbulk
  obtain ⟨cs0, rfl, _⟩ := okWide_struct Tryd.underlying26 (hval 0 26 v0 rfl rfl)
  obtain ⟨fuel0, hf0⟩ := h0
  obtain ⟨m0, e0, G0, F0, B0⟩ := reply_in (W := W) 1048576 fuel0 cs0.toList d0 p0 (by simpa [Value.cells] using hf0) (by omega) (Nat.le_refl _)
  obtain rfl : cs0 = #[.int .i64 m0.k, strV m0.s, .int .i64 m0.n, m0.v] := by unfold rCells at e0; cases cs0; simp_all
  obtain ⟨cs1, rfl, _⟩ := okWide_struct Tryd.underlying26 (hval 1 26 v1 rfl rfl)
  obtain ⟨fuel1, hf1⟩ := h1
  obtain ⟨m1, e1, G1, F1, B1⟩ := reply_in (W := W) 1048576 fuel1 cs1.toList d1 p1 (by simpa [Value.cells] using hf1) (by omega) (Nat.le_refl _)
  obtain rfl : cs1 = #[.int .i64 m1.k, strV m1.s, .int .i64 m1.n, m1.v] := by unfold rCells at e1; cases cs1; simp_all
  obtain ⟨k2, rfl, rfl, rfl, wk2⟩ := open_int Tryd.underlying3 (hval 2 3 v2 rfl rfl) h2
  have hk2 : -9223372036854775808 ≤ k2 ∧ k2 ≤ 9223372036854775807 := by simpa [Lit.wf, IntKind.min, IntKind.max, IntKind.signed, IntKind.bits] using wk2
  have fin : ∀ W', Below W.heap.size W W' → Rows.replyPiecesSpec.post enc Tryd.prog Tryd.f8 false true false false W #[repA m0, repA m1, .int .i64 k2] (.bool true) W' := fun W' hB =>
    law_post hW' laidOut (by kernel_rfl) Tryd.underlying4 rfl (by rw [Tryd.params8]; intro t ht; have ht' : t ∈ ([26, 26, 3] : List TypeId) := ht; simp only [List.mem_cons, List.not_mem_nil, or_false] at ht'; rcases ht' with rfl | rfl | rfl <;> exact ⟨by kernel_rfl, of_decide_eq_true (by kernel_rfl)⟩) rfl rfl rfl hB
  exact (law_pieces _ m0 m1 k2 W (vs_of_laid hL) G0 F0 (by omega) G1 F1 (by omega)).mono fun e W' ⟨he, hB⟩ => ⟨_, he, fin W' hB.toB⟩

theorem reads (os : Os) {H : Type} (enc : TypeId × Value → H) : ∃ places, DataW.whole enc Tryd.prog ((laidWorld os).forCall (fun _ _ => 0) ⟨#[], #[.agg #[.int .i64 0, .string ⟨#[]⟩, .int .i64 0, .slice none 0 0], .agg #[.int .i64 0, .string ⟨#[]⟩, .int .i64 0, .slice none 0 0], .int .i64 0], []⟩).memory Tryd.f8.params.toList Rows.replyPiecesSpec.vars false (#[.agg #[.int .i64 0, .string ⟨#[]⟩, .int .i64 0, .slice none 0 0], .agg #[.int .i64 0, .string ⟨#[]⟩, .int .i64 0, .slice none 0 0], .int .i64 0] : Array Value).toList 8 = some ([.agg [.lit (.int .i64 0), .lit (.string []), .lit (.int .i64 0), .nil], .agg [.lit (.int .i64 0), .lit (.string []), .lit (.int .i64 0), .nil], .lit (.int .i64 0)], [], places) :=
  ⟨[], by kernel_rfl⟩
theorem hasLaid (os : Os) : laidMetH Tryd.prog Rows.replyPiecesUptoRow.laid ((laidWorld os).forCall (fun _ _ => 0) ⟨#[], #[.agg #[.int .i64 0, .string ⟨#[]⟩, .int .i64 0, .slice none 0 0], .agg #[.int .i64 0, .string ⟨#[]⟩, .int .i64 0, .slice none 0 0], .int .i64 0], []⟩).memory := by
  unfold laidMetH
  have e : (Rows.replyPiecesUptoRow.laid.filter fun x => x.2.handleName?.isSome) = [] := by kernel_rfl
  rw [e]
  exact laidWorld_met os _

set_option maxRecDepth 100000 in
theorem lifted (os : Os) (started : os.Started) (H : Type) (enc : TypeId × Value → H) (F : Stop.Interp) :
    ReturnsInHanded {} Tryd.checked os 8 .any ((Rows.OpenSpec.upto Rows.replyPiecesSpec).preRow enc Tryd.prog Tryd.f8 Rows.replyPiecesUptoRow.domain false Rows.replyPiecesUptoRow.laid) (((Rows.OpenSpec.upto Rows.replyPiecesSpec).at F).post enc Tryd.prog Tryd.f8 false true false false) := by
  obtain ⟨places, hx⟩ := reads os enc
  refine returnsInHanded_of_row (C := Tryd.checked) (s := Rows.OpenSpec.upto Rows.replyPiecesSpec) own started (by kernel_rfl) Tryd.func8
    (witness_row_at (enc := enc) (C := Tryd.checked) false (laidWorld os) #[.agg #[.int .i64 0, .string ⟨#[]⟩, .int .i64 0, .slice none 0 0], .agg #[.int .i64 0, .string ⟨#[]⟩, .int .i64 0, .slice none 0 0], .int .i64 0] rfl (by kernel_rfl) (by kernel_rfl) (by kernel_rfl)
      (OpenSpec.preRow_of_cond 8 hx (by kernel_rfl) (fun k hk => by cases hk; kernel_rfl) (by kernel_rfl) (hasLaid os))) ?_
  intro W base args ds gs before hval hW _ hcond _ hL _ _
  exact contract H enc W base args ds gs before hval hW (noHandles hL) (hcond _ rfl)

theorem rowProved : Rows.ReplyPiecesUptoSaid :=
  OpenClaim.holds_of_cond 8 Tryd.f8 rfl rfl rfl rfl rfl rfl rfl ⟨rfl, rfl, rfl, rfl, rfl⟩ rfl rfl rfl rfl rfl (by kernel_rfl) Tryd.func8 (by kernel_rfl)
    (of_decide_eq_true (by kernel_rfl)) (by unfold Func.isWrapper; first | (rw [if_pos (by decide +kernel)]; kernel_rfl) | (rw [if_neg (by decide +kernel)]; exact ⟨rfl, rfl⟩))
    (fun os started H enc _ F => by rw [OpenClaim.pre_eq_preRow]; exact lifted os started H enc F)

theorem proved : Rows.ReplyPiecesUptoCardSaid :=
  Claim7.holds_tied_plain_at .later [] [.data, .data, .data] true (true, "e338ef33ae7b9130371b1da19b779e5649e054483f6d952b9888aa2bc97bbbc7") true
    rowProved (fun _ h => by cases h) (by kernel_rfl) (fun _ h => by cases h) replyPiecesUpto_row_tie rfl ⟨rfl, rfl⟩ (by kernel_rfl) rfl
    (fun f fn hf hfn => by
      obtain rfl : f = 8 := Option.some.inj ((show Tryd.prog.funcNamed "millpond/millpondlaw03.ReplyPieces" = some 8 by kernel_rfl).symm.trans hf) |>.symm
      obtain rfl : fn = Tryd.f8 := (Option.some.inj (Tryd.func8.symm.trans hfn)).symm
      exact ⟨by kernel_rfl, fun j t ht => by
        rw [Tryd.params8] at ht
        have h3 : t ∈ ([26, 26, 3] : List TypeId) := by
          have := Array.mem_of_getElem? ht
          simpa using this
        simp only [List.mem_cons, List.not_mem_nil, or_false] at h3
        rcases h3 with rfl | rfl | rfl
        · exact (show Tryd.prog.wantsStandIn 26 = false by kernel_rfl)
        · exact (show Tryd.prog.wantsStandIn 26 = false by kernel_rfl)
        · exact (show Tryd.prog.wantsStandIn 3 = false by kernel_rfl)⟩)
    (by kernel_rfl)
end Go.Proofs.YtpekeilpdbdnnaaDoor.replyPieces
