/- The document's requests: all that stand whole. -/
import Derived.Test.YtdfkdbdhaaiadaaDoorRs9
import Derived.Test.YtdfkdbdhaaiadaaDoorRe20
namespace Go.Proofs.YtdfkdbdhaaiadaaDoor
open Go.RowKit
attribute [local go_sem] fold_part fold_some fold_some' partAt_zero

theorem outs_single {w : World} {B : Nat} {v : Value} {L : List Bs} (h : OwnS w B v L) (hB : B ≤ w.heap.size) : OutsAt (w.alloc (.cells #[v] 48)) B (.slice (some ⟨w.heap.size, 0, none⟩) 1 1) [(v, L)] := by
  refine ⟨⟨rfl, .inr ⟨w.heap.size, 1, #[v], rfl, hB, heap_alloc_new w _, Nat.le_refl _, by unfold maxLen; omega, rfl, rfl⟩⟩, fun p hp => ?_⟩
  obtain rfl := List.mem_singleton.1 hp
  exact OwnS.kept2 h ((Kept.refl _ w).alloc _)

theorem OutsAt.keptNo {w w' : World} {base : Nat} {va : Value} {out : Outs} (h : OutsAt w base va out) (hk : Kept NoBlock w w') : OutsAt w' base va out := h.keptS hk (fun _ _ h => h)

set_option maxRecDepth 100000 in
set_option maxHeartbeats 6400000 in
theorem rsplit (v : Value) (b : Bs) (w : World) (h : BytesV w v b) (hb : b.length ≤ 1000000) : Calls Tryd.prog 12 #[v] w (SplitEnd (split parseV b) w) := by
  obtain ⟨M, hM⟩ : ∃ M, M = split parseV b := ⟨_, rfl⟩
  rw [← hM]
  have hM0 : splitA parseV [] 0 (b.drop 0) = M := by rw [hM, List.drop_zero]; rfl
  obtain ⟨ap, cap, rfl, hc, hn⟩ := h.parts
  have HB := Lib.hid h
  have HM0 := Lib.hid hM0
  obtain ⟨n, hnn⟩ : ∃ n, n = b.length := ⟨_, rfl⟩
  have HN := Lib.hid hnn
  rw [← hnn] at hb hc HB ⊢
  obtain ⟨i0, hi, hz0, hz1, hz2⟩ := info_parts strSlInfo
  clear hM hM0 h hn hnn
  go_enter Tryd.func12, Tryd.ntmps12
  go_wp2
  go_loopw [5, 6] (fun vo vn wr => ∃ (k : Nat) (out : Outs), vn = .int .i64 k ∧ k ≤ n ∧ OutsAt wr w.heap.size vo out ∧ splitA parseV (out.map (·.2)) k (b.drop k) = M ∧ out.length ≤ k ∧ Kept NoBlock w wr) (fun _ vn _ => n - (intOf vn).toNat)
  case atStart => exact ⟨0, [], rfl, Nat.zero_le _, ⟨⟨rfl, .inl ⟨rfl, rfl⟩⟩, fun p hp => (by cases hp)⟩, HM0.out, Nat.le_refl _, Kept.refl _ _⟩
  case round =>
    obtain ⟨k, out, rfl, hk, hO, hMM, hol, hK⟩ := hrel
    obtain ⟨apo, capo, rfl, _⟩ := ownsRow_form hO.1
    have HO := Lib.hid hO
    have HMM := Lib.hid hMM
    have HK := Lib.hid hK
    have hsz := hK.size
    have hpart := BytesV.tail (HB.out.keptNo hK) k hk
    have hcall := rfirst _ (b.drop k) wr hpart (by rw [List.length_drop, ← HN.out]; omega)
    have hs1 := fun (h : first parseV (b.drop k) = .wait) => splitA_wait parseV (out := out.map (·.2)) (n := k) h
    have hs2 := fun f (h : first parseV (b.drop k) = .wrong f) => splitA_wrong parseV (out := out.map (·.2)) (n := k) (f := f) h
    have hs3 := fun l m (h : first parseV (b.drop k) = .ok (l, m)) => splitA_ok parseV (out := out.map (·.2)) (n := k) h
    have hfo := fun l m (h : first parseV (b.drop k) = .ok (l, m)) => first_ok parseV h
    rw [hMM] at hs1 hs2 hs3
    rw [List.length_drop, ← HN.out] at hfo
    generalize first parseV (b.drop k) = Z at *
    have HC := Lib.hid hcall
    have HS1 := Lib.hid hs1
    have HS2 := Lib.hid hs2
    have HS3 := Lib.hid hs3
    have HFO := Lib.hid hfo
    clear hO hMM hK hpart hcall hs1 hs2 hs3 hfo HM0
    go_wp2_with fail
    refine HC.out.mono ?_
    intro e w2 hF
    obtain ⟨hk2, hend⟩ := hF
    have hkw : Kept NoBlock w w2 := HK.out.trans hk2
    have hs2 := hk2.size
    have hO2 : OutsAt w2 w.heap.size (.slice apo out.length capo) out := HO.out.keptNo hk2
    have HO2 := Lib.hid hO2
    have HK2 := Lib.hid hkw
    rcases Z with _ | f | ⟨l, m⟩
    · obtain rfl := hend
      obtain rfl : M = (out.map (·.2), k, []) := HS1.out rfl
      clear hk2 hkw hO2
      go_wp2
      go_quiet (fail)
      go_wp2
      go_ret3
      exact ⟨(HK2.out.alloc _).drewN _, _, out, rfl, HO2.out.keptNo (((Kept.refl NoBlock w2).alloc _).drewN _), rfl⟩
    · obtain rfl := hend
      obtain rfl : M = (out.map (·.2), k, f) := HS2.out f rfl
      clear hk2 hkw hO2
      go_wp2
      go_quiet (fail)
      go_wp2
      go_ret3
      exact ⟨(HK2.out.alloc _).drewN _, _, out, rfl, HO2.out.keptNo (((Kept.refl NoBlock w2).alloc _).drewN _), rfl⟩
    · obtain ⟨u, rfl, ho⟩ := hend
      obtain ⟨apu, capu, rfl, _⟩ := ownsRow_form ho
      have hM3 := HS3.out l m rfl
      rw [List.drop_drop] at hM3
      obtain ⟨hm0, hm1, _⟩ := HFO.out l m rfl
      have hou : OwnS w2 w.heap.size (.slice apu l.length capu) l := ownsRow_lower ho hsz
      have HOU := Lib.hid hou
      have HM3 := Lib.hid hM3
      clear hk2 hkw hO2 ho hM3 HS1 HS2 HS3 HFO HO HK HMM HC hou
      cases l with
      | nil =>
        have hMn : splitA parseV (out.map (·.2)) (k + m) (b.drop (k + m)) = M := by have := HM3.out; rw [if_pos rfl] at this; exact this.symm
        have HMn := Lib.hid hMn
        clear hMn HM3
        simp only [List.length_nil] at *
        go_wp2
        go_roundw
        case rel => exact ⟨k + m, out, by go_num, by omega, HO2.out.keptNo ((Kept.refl NoBlock w2).alloc _), HMn.out, by omega, HK2.out.alloc _⟩
        case measure => simp [intOf]; omega
      | cons x l' =>
        have hMn : splitA parseV (out.map (·.2) ++ [x :: l']) (k + m) (b.drop (k + m)) = M := by have := HM3.out; rw [if_neg (by simp)] at this; exact this.symm
        have HMn := Lib.hid hMn
        have hlp : 0 < (x :: l').length := by simp
        obtain ⟨L, hL⟩ : ∃ L, L = x :: l' := ⟨_, rfl⟩
        rw [← hL] at hlp HMn HOU ⊢
        clear hMn HM3 hL
        have hlpI : (0 : Int) < (L.length : Int) := by omega
        obtain ⟨F, hF⟩ : ∃ F : Obj, F = .cells #[.int .i64 1, .int .i64 m, .slice apu L.length capu, .string ⟨#[]⟩] 63 := ⟨_, rfl⟩
        have hkF : Kept NoBlock w2 (w2.alloc F) := (Kept.refl NoBlock w2).alloc F
        have hoS := outs_single (HOU.out.kept2 hkF) (by simp; omega)
        have hoW : OutsAt ((w2.alloc F).alloc (.cells #[.slice apu L.length capu] 48)) w.heap.size (.slice apo out.length capo) out := HO2.out.keptNo (hkF.alloc _)
        rw [World.size_alloc] at hoS
        have HOS := Lib.hid hoS
        have HOW := Lib.hid hoW
        have HKF := Lib.hid ((HK2.out.trans hkF).alloc (.cells #[.slice apu L.length capu] 48))
        subst hF
        clear hkF hoS hoW
        go_wp2_with (at_builtin; refine wpList_append_holds rfl _ _ 24 rfl w.heap.size 48 i0 (.slice none 0 0) 24 Tryd.underlying24 hi hz0 hz1 hz2 rfl (.slice apo out.length capo) out.length _ (by rfl) HOW.out.1 (some ⟨w2.heap.size + 1, 0, none⟩) 1 1 [.slice apu L.length capu] (by rfl) (ownsRow_holds HOS.out.1) (fun h => by cases h) (fun u hu => by rw [List.mem_singleton.1 hu]; rfl) (by unfold maxLen; omega) (by omega) (by simp; omega) ?_; intro v5 w3 hown5 hg5; refine Hid.out ?_)
        have ho5 := outs_append HOW.out HOS.out hg5 hown5
        have HO5 := Lib.hid ho5
        have hk5 : Kept NoBlock w w3 := HKF.out.grown hg5 (fun k e hlt => by have := (HOW.out.1.lt k e).1; omega)
        have HK5 := Lib.hid hk5
        have hgF : w3.heap[w2.heap.size]? = some (.cells #[.int .i64 1, .int .i64 m, .slice apu L.length capu, .string ⟨#[]⟩] 63 (0, 0)) := by
          rw [hg5.block w2.heap.size (by simp; omega) (fun e => by have := (HO2.out.1.lt _ e.symm).2; omega)]
          exact (heap_alloc_lt _ (by simp)).trans (heap_alloc_new w2 _)
        obtain ⟨d0, d1, d2, d3, f0, f1, f2, f3⟩ := blk4 hgF
        clear ho5 hk5 hg5 hown5 HOS HOW HKF HO2 HK2 hgF
        refine Lib.hid ?_
        go_wp2
        go_roundw
        case rel => exact ⟨k + m, out ++ [(.slice apu L.length capu, L)], by go_num, by omega, HO5.out, by rw [List.map_append]; exact HMn.out, by rw [List.length_append, List.length_singleton]; omega, HK5.out⟩
        case measure => simp [intOf]; omega
end Go.Proofs.YtdfkdbdhaaiadaaDoor
