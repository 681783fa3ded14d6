/- Merged: 'millpond/millpondlaw20.SnapshotSpoilt' returns true for every input, and leaves the input as it was. -/
import Derived.Test.YtfhlhpknobkplaaDoorZLb
import Derived.Test.YtfhlhpknobkplaaDoorQInz
import Derived.Lib.SmallJoins
import Derived.Test.YtfhlhpknobkplaaDoorHLaidz
import Derived.Test.YtfhlhpknobkplaaDoorRLawsz
import Derived.Test.YtfhlhpknobkplaaDoorTie
import Derived.Test.YtfhlhpknobkplaaDoorCards
import Derived.SevenTiedAt
set_option linter.all false
namespace Go.Proofs.YtfhlhpknobkplaaDoor.snapshotSpoilt
open Go.ChangeShapes Go.WideShapes Go.ChangeAt Go.RowKit Go.Joins

set_option maxRecDepth 100000 in
theorem contract (H : Type) (enc : TypeId × Value → H) (W : World) (base : Nat) (args : Array Value) (ds gs : List (DataW H)) (before : List MemPlace)
    (hval0 : ∀ (j : Nat) t v, Tryd.f8.params[j]? = some t → args[j]? = some v → Value.okWide Tryd.prog W .any base t v)
    (hW : DataW.Whole enc Tryd.prog Tryd.f8.params.toList Rows.snapshotSpoiltSpec.vars false W args.toList ds gs before) (hL : laidMet Tryd.prog laidL W)
    (hsz : (DataW.weightsEach Tryd.prog (Tryd.f8.params.toList ++ Rows.snapshotSpoiltSpec.plain.varTypes Tryd.prog) (ds ++ gs)).all (· ≤ reachBytes) = true) :
    Calls Tryd.prog 8 args W fun e W' => ∃ v, e = .returned v ∧ Rows.snapshotSpoiltSpec.post enc Tryd.prog Tryd.f8 false true false false W args v W' := by
  have hval := hval0
  have hW' := hW
  obtain ⟨p, q, hA0, hV, rfl, hfz, hnd⟩ := hW
  have hA : DataW.TrodAll enc Tryd.prog W 0 (fun _ => true) true Tryd.f8.params.toList args.toList ds p := hA0
  rw [Tryd.params8] at hA hval
  obtain ⟨v0, vs0, d0, ds0, p0, q0, hargs, rfl, rfl, h0, r0⟩ := trodAll_cons hA
  obtain ⟨v1, vs1, d1, ds1, p1, q1, rfl, rfl, rfl, h1, r1⟩ := trodAll_cons r0
  obtain ⟨v2, vs2, d2, ds2, p2, q2, rfl, rfl, rfl, h2, r2⟩ := trodAll_cons r1
  obtain ⟨v3, vs3, d3, ds3, p3, q3, rfl, rfl, rfl, h3, r3⟩ := trodAll_cons r2
  obtain ⟨rfl, rfl, rfl⟩ := trodAll_nil r3
  obtain rfl : args = #[v0, v1, v2, v3] := by cases args; simp_all
  obtain ⟨rfl, rfl⟩ := trodVars_none hV
  obtain ⟨id0, sec0, off0, fork0, rfl, hid0⟩ := hist_in (hval 0 32 v0 rfl rfl) h0
  obtain ⟨a1, n1, c1, rfl⟩ := okWide_slice Tryd.underlying33 (hval 1 33 v1 rfl rfl)
  obtain ⟨fuel1, hf1⟩ := h1
  have hfit1 : Fit 33 d1 := fun n hn => by
    have := of_decide_eq_true (List.all_eq_true.1 hsz n (DataW.weights_mem_each (j := 1) (by rw [Tryd.params8]; rfl) rfl n hn))
    have : reachBytes = 140737488351232 := rfl
    omega
  obtain ⟨ms1, I1⟩ := ents_in (by simpa [Value.cells] using hf1) hfit1
  have lt1 := slice_lt Tryd.underlying33 (hval 1 33 _ rfl rfl)
  obtain ⟨k2, rfl, rfl, rfl, wk2⟩ := open_int Tryd.underlying43 (hval 2 43 v2 rfl rfl) h2
  have hk2 : 0 ≤ k2 ∧ k2 ≤ 65535 := by simpa [Lit.wf, IntKind.min, IntKind.max, IntKind.signed, IntKind.bits] using wk2
  obtain ⟨k3, rfl, rfl, rfl, wk3⟩ := open_int Tryd.underlying5 (hval 3 5 v3 rfl rfl) h3
  have hk3 : 0 ≤ k3 ∧ k3 ≤ 255 := by simpa [Lit.wf, IntKind.min, IntKind.max, IntKind.signed, IntKind.bits] using wk3
  have fin : ∀ W', Below W.heap.size W W' → Rows.snapshotSpoiltSpec.post enc Tryd.prog Tryd.f8 false true false false W #[.agg #[.int .u64 id0, .int .i64 off0, .int .u64 sec0, .int .i64 fork0], .slice a1 n1 c1, .int .u16 k2, .int .u8 k3] (.bool true) W' := fun W' hB =>
    law_post hW' laidOut (by kernel_rfl) Tryd.underlying4 rfl (by rw [Tryd.params8]; intro t ht; have ht' : t ∈ ([32, 33, 43, 5] : List TypeId) := ht; simp only [List.mem_cons, List.not_mem_nil, or_false] at ht'; rcases ht' with rfl | rfl | rfl | rfl <;> exact ⟨by kernel_rfl, of_decide_eq_true (by kernel_rfl)⟩) rfl rfl rfl hB
  obtain ⟨n2, rfl⟩ := Int.eq_ofNat_of_zero_le hk2.1
  obtain ⟨n3, rfl⟩ := Int.eq_ofNat_of_zero_le hk3.1
  have hx3 : ((UInt8.ofNat n3).toNat : Int) = (n3 : Int) := by
    have : (UInt8.ofNat n3).toNat = n3 % 256 := by simp
    rw [this]; omega
  rw [← hx3] at fin ⊢
  exact (law_spoilt _ _ _ _ _ ms1 n2 (UInt8.ofNat n3) W (vs_of_laid hL) I1 hid0 (by omega)).mono fun e W' ⟨he, hB⟩ => ⟨_, he, fin W' hB.toB⟩

set_option maxRecDepth 100000 in
theorem lifted (os : Os) (started : os.Started) (H : Type) (enc : TypeId × Value → H) :
    ReturnsInHanded {} Tryd.checked os 8 .any (fun w args => (Rows.snapshotSpoiltSpec.pre enc Tryd.prog Tryd.f8 Rows.snapshotSpoiltRow.domain false w args ∧ laidMet Tryd.prog laidL w) ∧ sizedMet enc Tryd.prog Tryd.f8 (OpenSpec.ofChange Rows.snapshotSpoiltSpec) false w args) (Rows.snapshotSpoiltSpec.post enc Tryd.prog Tryd.f8 false true false false) := by
  refine returnsInHanded_of_change_and (C := Tryd.checked) (X := fun w _ => laidMet Tryd.prog laidL w) (fun _ _ _ hh h => h.of_heap hh) own started (by kernel_rfl) Tryd.func8
    (ChangeSpec.witness_at (enc := enc) (C := Tryd.checked) (os := os) (X := fun w _ => laidMet Tryd.prog laidL w) false (laidWorld os) #[.agg #[.int .u64 0, .int .i64 0, .int .u64 0, .int .i64 0], .slice none 0 0, .int .u16 0, .int .u8 0] 8 rfl (by kernel_rfl) (by kernel_rfl) (by kernel_rfl) (by kernel_rfl) (by kernel_rfl) (laidWorld_met os _)) ?_
  intro W base args ds gs before hval hW _ hsz hL _
  exact contract H enc W base args ds gs before hval hW hL hsz

theorem rowProved : Rows.SnapshotSpoiltSaid :=
  OpenClaim.holds_of_wide 8 Tryd.f8 rfl rfl rfl rfl rfl rfl rfl ⟨rfl, rfl, rfl, rfl, rfl⟩ rfl rfl rfl rfl rfl (by kernel_rfl) Tryd.func8 (by kernel_rfl)
    (of_decide_eq_true (by kernel_rfl)) (by unfold Func.isWrapper; first | (rw [if_pos (by decide +kernel)]; kernel_rfl) | (rw [if_neg (by decide +kernel)]; exact ⟨rfl, rfl⟩))
    (fun os started H enc _ => lifted os started H enc)

theorem proved : Rows.SnapshotSpoiltCardSaid :=
  Claim7.holds_tied_plain_at .later [] [.data] true (true, "2d2d773f675e91e201d9dcc52cbaf8d2f3a71a43cc0ad20cd6f0d23eaed3d3c1") true
    rowProved (fun _ h => by cases h) (by kernel_rfl) (fun _ h => by cases h) snapshotSpoilt_row_tie rfl ⟨rfl, rfl⟩ (by kernel_rfl) rfl
    (fun f fn hf hfn => by
      obtain rfl : f = 8 := Option.some.inj ((show Tryd.prog.funcNamed "millpond/millpondlaw20.SnapshotSpoilt" = some 8 by kernel_rfl).symm.trans hf) |>.symm
      obtain rfl : fn = Tryd.f8 := (Option.some.inj (Tryd.func8.symm.trans hfn)).symm
      exact ⟨by kernel_rfl, fun j t ht => by
        rw [Tryd.params8] at ht
        have h3 : t ∈ ([32, 33, 43, 5] : List TypeId) := by
          have := Array.mem_of_getElem? ht
          simpa using this
        simp only [List.mem_cons, List.not_mem_nil, or_false] at h3
        rcases h3 with rfl | rfl | rfl | rfl
        · exact (show Tryd.prog.wantsStandIn 32 = false by kernel_rfl)
        · exact (show Tryd.prog.wantsStandIn 33 = false by kernel_rfl)
        · exact (show Tryd.prog.wantsStandIn 43 = false by kernel_rfl)
        · exact (show Tryd.prog.wantsStandIn 5 = false by kernel_rfl)⟩)
    (by kernel_rfl)
end Go.Proofs.YtfhlhpknobkplaaDoor.snapshotSpoilt
