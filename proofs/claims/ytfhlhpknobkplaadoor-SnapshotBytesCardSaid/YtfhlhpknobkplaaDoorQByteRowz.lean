/- Merged: 'millpond/millpondlaw20.SnapshotBytes' returns true for every input, and leaves the input as it was. -/
import Derived.Test.YtfhlhpknobkplaaDoorZLy
import Derived.Test.YtfhlhpknobkplaaDoorQInz
import Derived.Lib.SmallJoins
import Derived.Test.YtfhlhpknobkplaaDoorHLaidz
import Derived.Test.YtfhlhpknobkplaaDoorRLawsz
import Derived.Test.YtfhlhpknobkplaaDoorTie
import Derived.Test.YtfhlhpknobkplaaDoorCards
import Derived.SevenTiedAt
set_option linter.all false
namespace Go.Proofs.YtfhlhpknobkplaaDoor.snapshotBytes
open Go.ChangeShapes Go.WideShapes Go.ChangeAt Go.RowKit Go.Joins

set_option maxRecDepth 100000 in
theorem contract (H : Type) (enc : TypeId × Value → H) (W : World) (base : Nat) (args : Array Value) (ds gs : List (DataW H)) (before : List MemPlace)
    (hval0 : ∀ (j : Nat) t v, Tryd.f9.params[j]? = some t → args[j]? = some v → Value.okWide Tryd.prog W .any base t v)
    (hW : DataW.Whole enc Tryd.prog Tryd.f9.params.toList Rows.snapshotBytesSpec.vars false W args.toList ds gs before) (hL : laidMet Tryd.prog laidL W)
    (hsz : (DataW.weightsEach Tryd.prog (Tryd.f9.params.toList ++ Rows.snapshotBytesSpec.plain.varTypes Tryd.prog) (ds ++ gs)).all (· ≤ reachBytes) = true) :
    Calls Tryd.prog 9 args W fun e W' => ∃ v, e = .returned v ∧ Rows.snapshotBytesSpec.post enc Tryd.prog Tryd.f9 false true false false W args v W' := by
  have hval := hval0
  have hW' := hW
  obtain ⟨p, q, hA0, hV, rfl, hfz, hnd⟩ := hW
  have hA : DataW.TrodAll enc Tryd.prog W 0 (fun _ => true) true Tryd.f9.params.toList args.toList ds p := hA0
  rw [Tryd.params9] at hA hval
  obtain ⟨v0, vs0, d0, ds0, p0, q0, hargs, rfl, rfl, h0, r0⟩ := trodAll_cons hA
  obtain ⟨v1, vs1, d1, ds1, p1, q1, rfl, rfl, rfl, h1, r1⟩ := trodAll_cons r0
  obtain ⟨rfl, rfl, rfl⟩ := trodAll_nil r1
  obtain rfl : args = #[v0, v1] := by cases args; simp_all
  obtain ⟨rfl, rfl⟩ := trodVars_none hV
  obtain ⟨id0, sec0, off0, fork0, rfl, hid0⟩ := hist_in (hval 0 32 v0 rfl rfl) h0
  obtain ⟨a1, n1, c1, rfl⟩ := okWide_slice Tryd.underlying33 (hval 1 33 v1 rfl rfl)
  obtain ⟨fuel1, hf1⟩ := h1
  have hfit1 : Fit 33 d1 := fun n hn => by
    have := of_decide_eq_true (List.all_eq_true.1 hsz n (DataW.weights_mem_each (j := 1) (by rw [Tryd.params9]; rfl) rfl n hn))
    have : reachBytes = 140737488351232 := rfl
    omega
  obtain ⟨ms1, I1⟩ := ents_in (by simpa [Value.cells] using hf1) hfit1
  have lt1 := slice_lt Tryd.underlying33 (hval 1 33 _ rfl rfl)
  have fin : ∀ W', Below W.heap.size W W' → Rows.snapshotBytesSpec.post enc Tryd.prog Tryd.f9 false true false false W #[.agg #[.int .u64 id0, .int .i64 off0, .int .u64 sec0, .int .i64 fork0], .slice a1 n1 c1] (.bool true) W' := fun W' hB =>
    law_post hW' laidOut (by kernel_rfl) Tryd.underlying4 rfl (by rw [Tryd.params9]; intro t ht; have ht' : t ∈ ([32, 33] : List TypeId) := ht; simp only [List.mem_cons, List.not_mem_nil, or_false] at ht'; rcases ht' with rfl | rfl <;> exact ⟨by kernel_rfl, of_decide_eq_true (by kernel_rfl)⟩) rfl rfl rfl hB
  exact (law_bytes _ _ _ _ _ ms1 W (vs_of_laid hL) I1 hid0).mono fun e W' ⟨he, hB⟩ => ⟨_, he, fin W' hB.toB⟩

set_option maxRecDepth 100000 in
theorem lifted (os : Os) (started : os.Started) (H : Type) (enc : TypeId × Value → H) :
    ReturnsInHanded {} Tryd.checked os 9 .any (fun w args => (Rows.snapshotBytesSpec.pre enc Tryd.prog Tryd.f9 Rows.snapshotBytesRow.domain false w args ∧ laidMet Tryd.prog laidL w) ∧ sizedMet enc Tryd.prog Tryd.f9 (OpenSpec.ofChange Rows.snapshotBytesSpec) false w args) (Rows.snapshotBytesSpec.post enc Tryd.prog Tryd.f9 false true false false) := by
  refine returnsInHanded_of_change_and (C := Tryd.checked) (X := fun w _ => laidMet Tryd.prog laidL w) (fun _ _ _ hh h => h.of_heap hh) own started (by kernel_rfl) Tryd.func9
    (ChangeSpec.witness_at (enc := enc) (C := Tryd.checked) (os := os) (X := fun w _ => laidMet Tryd.prog laidL w) false (laidWorld os) #[.agg #[.int .u64 0, .int .i64 0, .int .u64 0, .int .i64 0], .slice none 0 0] 8 rfl (by kernel_rfl) (by kernel_rfl) (by kernel_rfl) (by kernel_rfl) (by kernel_rfl) (laidWorld_met os _)) ?_
  intro W base args ds gs before hval hW _ hsz hL _
  exact contract H enc W base args ds gs before hval hW hL hsz

theorem rowProved : Rows.SnapshotBytesSaid :=
  OpenClaim.holds_of_wide 9 Tryd.f9 rfl rfl rfl rfl rfl rfl rfl ⟨rfl, rfl, rfl, rfl, rfl⟩ rfl rfl rfl rfl rfl (by kernel_rfl) Tryd.func9 (by kernel_rfl)
    (of_decide_eq_true (by kernel_rfl)) (by unfold Func.isWrapper; first | (rw [if_pos (by decide +kernel)]; kernel_rfl) | (rw [if_neg (by decide +kernel)]; exact ⟨rfl, rfl⟩))
    (fun os started H enc _ => lifted os started H enc)

theorem proved : Rows.SnapshotBytesCardSaid :=
  Claim7.holds_tied_plain_at .later [] [.data] true (true, "2d2d773f675e91e201d9dcc52cbaf8d2f3a71a43cc0ad20cd6f0d23eaed3d3c1") true
    rowProved (fun _ h => by cases h) (by kernel_rfl) (fun _ h => by cases h) snapshotBytes_row_tie rfl ⟨rfl, rfl⟩ (by kernel_rfl) rfl
    (fun f fn hf hfn => by
      obtain rfl : f = 9 := Option.some.inj ((show Tryd.prog.funcNamed "millpond/millpondlaw20.SnapshotBytes" = some 9 by kernel_rfl).symm.trans hf) |>.symm
      obtain rfl : fn = Tryd.f9 := (Option.some.inj (Tryd.func9.symm.trans hfn)).symm
      exact ⟨by kernel_rfl, fun j t ht => by
        rw [Tryd.params9] at ht
        have h3 : t ∈ ([32, 33] : List TypeId) := by
          have := Array.mem_of_getElem? ht
          simpa using this
        simp only [List.mem_cons, List.not_mem_nil, or_false] at h3
        rcases h3 with rfl | rfl
        · exact (show Tryd.prog.wantsStandIn 32 = false by kernel_rfl)
        · exact (show Tryd.prog.wantsStandIn 33 = false by kernel_rfl)⟩)
    (by kernel_rfl)
end Go.Proofs.YtfhlhpknobkplaaDoor.snapshotBytes
